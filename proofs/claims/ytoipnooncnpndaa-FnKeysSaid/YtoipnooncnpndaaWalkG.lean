/-
  The walks of IsLoneHole, JumpsOf, UndosOf (impl and spec).
-/
import Derived.Test.YtoipnooncnpndaaWalkF
import Derived.Test.YtoipnooncnpndaaHeld
namespace Go.Proofs.Ytoipnooncnpndaa
open Go.RowKit
open Peg
set_option linter.unusedVariables false

def loneB (a h s k : Int) : Bool := hasB a h s k && (throughL a h s k).length == 0

theorem IsLoneHole_any (a h s k : Int) (w : World) :
    Calls Try.prog 21 #[.agg #[.int .i64 a, .int .i64 h, .int .i64 s], .int .i64 k] w fun e w' => e = .returned (.bool (loneB a h s k)) ∧ Below w.heap.size w w' := by
  obtain ⟨r, hr⟩ : ∃ r, loneB a h s k = r := ⟨_, rfl⟩
  rw [hr]
  have HR := Lib.hid hr
  clear hr
  cases h1 : hasB a h s k
  · have H1 := Lib.hid (show r = false by rw [← HR.out]; simp [loneB, h1])
    go_enter Try.func21, Try.ntmps21
    go_wp2_with fail
    refine (HasHole_b _ _ _ _ _ h1 _).mono ?_
    rintro e w1 ⟨rfl, hB1⟩
    go_wp2
    go_ret
    exact ⟨by rw [H1.out]; rfl, (below1 _ _).andThen hB1⟩
  · obtain ⟨ls, hls⟩ : ∃ ls, throughL a h s k = ls := ⟨_, rfl⟩
    have H1 := Lib.hid (show r = (ls.length == 0) by rw [← HR.out, ← hls]; simp [loneB, h1])
    have HL := Lib.hid hls
    clear hls
    go_enter Try.func21, Try.ntmps21
    have X0 := BoxAt.new w a h s 26
    obtain ⟨b0, b1, b2, bz⟩ := X0
    go_wp2_with fail
    refine (HasHole_b _ _ _ _ _ h1 _).mono ?_
    rintro e w1 ⟨rfl, hB1⟩
    replace b0 := cell_kept b0 hB1
    replace b1 := cell_kept b1 hB1
    replace b2 := cell_kept b2 hB1
    go_wp2_with fail
    refine (LinesThrough_any _ _ _ _ _).mono ?_
    rintro e w2 hr
    obtain ⟨v, rfl, hr1, hB2⟩ := hr
    rw [HL.out] at hr1
    have hBel := Lib.hid (((below1 w (.cells #[.int .i64 a, .int .i64 h, .int .i64 s] 26)).andThen hB1).andThen hB2)
    rcases hr1.forms with ⟨h0, q, cap, rfl⟩ | ⟨hpos, g, cap, rfl, _⟩
    · have H2 := Lib.hid (show r = true by rw [H1.out, h0]; rfl)
      clear hr1 hB1 hB2
      go_wp2
      go_ret
      exact ⟨by rw [H2.out]; rfl, hBel.out⟩
    · have H2 := Lib.hid (show r = false by rw [H1.out]; simp; intro e; rw [e] at hpos; simp at hpos)
      have hne : ((ls.length : Nat) : Int) ≠ 0 := by omega
      have hne2 : (((ls.length : Nat) : Int) == 0) = false := by simpa using hne
      clear hr1 hB1 hB2
      go_wp2
      go_ret
      exact ⟨by rw [H2.out]; rfl, hBel.out⟩

def canJL (P : Nat) (l : Ln) : Bool := canJ P (Int.toNat l.a) (Int.toNat l.b) (Int.toNat l.c)
def jumpL (a h s q : Int) : List Ln := if pOk a h s q then (linesL a h s).filter (canJL (Int.toNat q)) else []
theorem jumpL_no {a h s q : Int} (hp : pOk a h s q = false) : jumpL a h s q = [] := by unfold jumpL; rw [hp]; rfl
theorem jumpL_yes {a h s : Int} {P : Nat} (hp : pOk a h s P = true) : jumpL a h s P = (linesL a h s).filter (canJL P) := by unfold jumpL; rw [hp]; rfl
theorem jumpL_short (a h s q : Int) : (jumpL a h s q).length ≤ 196 := by
  unfold jumpL
  split
  · exact Nat.le_trans (List.length_filter_le _ _) (linesL_short a h s)
  · simp

def canUL (P : Nat) (l : Ln) : Bool := canU P (Int.toNat l.a) (Int.toNat l.b) (Int.toNat l.c)
def undoL (a h s q : Int) : List Ln := if pOk a h s q then (linesL a h s).filter (canUL (Int.toNat q)) else []
theorem undoL_no {a h s q : Int} (hp : pOk a h s q = false) : undoL a h s q = [] := by unfold undoL; rw [hp]; rfl
theorem undoL_yes {a h s : Int} {P : Nat} (hp : pOk a h s P = true) : undoL a h s P = (linesL a h s).filter (canUL P) := by unfold undoL; rw [hp]; rfl
theorem undoL_short (a h s q : Int) : (undoL a h s q).length ≤ 196 := by
  unfold undoL
  split
  · exact Nat.le_trans (List.length_filter_le _ _) (linesL_short a h s)
  · simp

theorem pOk_nat {a h s q : Int} (h1 : pOk a h s q = true) : ∃ W H S P : Nat, a = W ∧ h = H ∧ s = S ∧ q = P ∧ Ok W H S ∧ P < 2 ^ 49 := by
  have hb : bOk a h s = true := by unfold pOk at h1; simp only [Bool.and_eq_true] at h1; exact h1.1
  obtain ⟨W, H, S, rfl, rfl, rfl, ok⟩ := (bOk_iff _ _ _).1 hb
  obtain ⟨P, rfl, hP⟩ := (pOk_iff ok q).1 h1
  exact ⟨W, H, S, P, rfl, rfl, rfl, rfl, ok, Nat.lt_of_le_of_lt (sub_le hP) ok.lt⟩
theorem lines_nat {W H S : Nat} (ok : Ok W H S) {i : Nat} {l : Ln} (h : (linesL W H S)[i]? = some l) : ∃ A B C : Nat, l = ⟨A, B, C⟩ ∧ A ≤ 48 ∧ B ≤ 48 ∧ C ≤ 48 ∧ A ≠ B ∧ B ≠ C ∧ A ≠ C := by
  rw [linesL_ok ok] at h
  obtain ⟨A, B, C, rfl, dx, dy, hI⟩ := linesF_form ok (List.mem_of_getElem? h)
  have h49 := hI.lt49 ok
  have hd := hI.distinct
  exact ⟨A, B, C, rfl, by omega, by omega, by omega, hd.1, hd.2.1, hd.2.2⟩

set_option maxHeartbeats 800000 in
set_option maxRecDepth 100000 in
theorem JumpsOf_no (a h s q : Int) (hq : q < 2 ^ 63) (h1 : pOk a h s q = false) (w : World) :
    Calls Try.prog 35 #[.agg #[.int .i64 a, .int .i64 h, .int .i64 s], .int .i64 q] w (RetL w []) := by
  go_enter Try.func35, Try.ntmps35
  go_wp2_with fail
  refine (PositionOk_b _ _ _ _ _ hq h1 _).mono ?_
  rintro e w1 ⟨rfl, hB1⟩
  have R := Lib.hid (RowX.kept (rowNilL (w.alloc (.cells #[.int .i64 a, .int .i64 h, .int .i64 s] 26)) w.heap.size (w.heap.size + 1) (by simp) (by simp)) hB1)
  have hBel := Lib.hid (((below1 w (.cells #[.int .i64 a, .int .i64 h, .int .i64 s] 26)).more (.cells #[] 38)).andThen hB1)
  clear hB1
  go_wp2
  go_ret
  exact ⟨_, rfl, R.out, hBel.out⟩

set_option maxHeartbeats 800000 in
set_option maxRecDepth 100000 in
theorem JumpsOf_yes (W H S P : Nat) (ok : Ok W H S) (hP : P < 2 ^ 49) (h1 : pOk W H S P = true) (w : World) :
    Calls Try.prog 35 #[.agg #[.int .i64 W, .int .i64 H, .int .i64 S], .int .i64 P] w (RetL w ((linesL W H S).filter (canJL P))) := by
  obtain ⟨i0, hi, hz0, hz1, hz2⟩ := info_parts info_line
  have hsh := linesL_short W H S
  have Hnat := Lib.hid (fun i l h => lines_nat ok (i := i) (l := l) h)
  obtain ⟨ls, hls⟩ : ∃ ls, linesL W H S = ls := ⟨_, rfl⟩
  rw [hls] at hsh Hnat ⊢
  have HL := Lib.hid hls
  clear hls ok
  obtain ⟨f, hf⟩ : ∃ f : Ln → Bool, canJL P = f := ⟨_, rfl⟩
  rw [hf]
  have HF := Lib.hid hf
  clear hf
  have H1 := Lib.hid h1
  clear h1
  go_enter Try.func35, Try.ntmps35
  have X0 := BoxAt.new w W H S 26
  have X1 := X0.below (below1 _ (.cells #[] 38))
  obtain ⟨b0, b1, b2, bz⟩ := X1
  clear X0
  go_wp2_with fail
  refine (PositionOk_b true _ _ _ _ (by omega) H1.out _).mono ?_
  rintro e w0 ⟨rfl, hB0⟩
  replace b0 := cell_kept b0 hB0
  replace b1 := cell_kept b1 hB0
  replace b2 := cell_kept b2 hB0
  have R0 := RowX.kept (rowNilL (w.alloc (.cells #[.int .i64 W, .int .i64 H, .int .i64 S] 26)) (w.heap.size + 1) (w.heap.size + 1) (by simp) (by simp)) hB0
  have hBel0 := ((below1 w (.cells #[.int .i64 W, .int .i64 H, .int .i64 S] 26)).more (.cells #[] 38)).andThen hB0
  have hsz0 := hB0.size
  simp at hsz0
  clear hB0 bz
  go_wp2_with fail
  refine (LinesOf_any _ _ _ _).mono ?_
  rintro e ws hr
  obtain ⟨v, rfl, hr1, hB⟩ := hr
  rw [HL.out] at hr1
  have R1 := RowX.kept R0 hB
  have hBel := Lib.hid (hBel0.andThen hB)
  have hsz := hB.size
  clear hB R0 hBel0 b0 b1 b2
  rcases hr1.forms with ⟨h0, q, cap, rfl⟩ | ⟨_, g, cap, rfl, hgB, hgs⟩
  · subst h0
    go_wp2_with fail
    refine wp_loop_rounds 1 ?_
    rw [rounds_succ]
    go_wp2
    go_ret
    exact ⟨_, rfl, R1.le (by omega), hBel.out⟩
  · go_wp2_with fail
    go_loopw [5, 19] (fun v j wr => ∃ i : Nat, i ≤ ls.length ∧ j = .int .i64 i ∧ RowL wr (w.heap.size + 1) v (sift f ls i) ∧ Acc ws (w.heap.size + 1) v wr) (fun _ j _ => ls.length - (intOf j).toNat)
    case atStart => exact ⟨0, by omega, rfl, by rw [sift_zero]; exact R1, Acc.start _ _ _ (fun k hk => by simp [Value.ownBlock] at hk; omega)⟩
    case round =>
      obtain ⟨i, hi2, rfl, hrow, hacc⟩ := hrel
      by_cases hlt : i < ls.length
      · obtain ⟨e0, e1, e2⟩ := RowL.at (RowX.keptBut hr1 hacc.gr (fun k hk e => by simp [Value.ownBlock] at hk e; omega)) i hlt
        obtain ⟨l, hl⟩ : ∃ x, ls[i] = x := ⟨_, rfl⟩
        rw [hl] at e0 e1 e2
        have Hl := Lib.hid (show ls[i]? = some l by rw [← hl]; simp [hlt])
        clear hl
        obtain ⟨A, B, C, rfl, ha, hb, hc, n1, n2, n3⟩ := Hnat.out i l Hl.out
        dsimp only at e0 e1 e2
        have hln := sift_le f ls i
        obtain ⟨zs, hzs⟩ : ∃ zs, sift f ls i = zs := ⟨_, rfl⟩
        rw [hzs] at hrow hln
        have Hzs := Lib.hid hzs
        clear hzs
        have hgw : g < wr.heap.size := by have := hacc.gr.size; omega
        have Y0 := BoxAt.new wr A B C 38
        have hacc0 := hacc.below (below1 wr (.cells #[.int .i64 A, .int .i64 B, .int .i64 C] 38))
        have hrow0 := RowX.kept hrow (below1 wr (.cells #[.int .i64 A, .int .i64 B, .int .i64 C] 38))
        clear hacc hrow
        obtain ⟨b, hb2⟩ : ∃ b, canJ P A B C = b := ⟨_, rfl⟩
        have Hb := Lib.hid (show f ⟨A, B, C⟩ = b by rw [← HF.out, ← hb2]; rfl)
        have Hb2 := Lib.hid hb2
        clear hb2
        cases b
        · go_wp2_with fail
          refine (jumpFrom_f P A B C hP ha hb hc Hb2.out _).mono ?_
          rintro e w1 ⟨rfl, hB1⟩
          have hacc1 := hacc0.below hB1
          have hrow1 := RowX.kept hrow0 hB1
          clear hacc0 hrow0 Y0 hB1
          go_wp2
          go_roundw
          case rel => exact ⟨i + 1, by omega, by go_num, by rw [sift_out Hl.out Hb.out, Hzs.out]; exact hrow1, hacc1⟩
          case measure => simp [intOf]; omega
        · go_wp2_with fail
          refine (jumpFrom_t P A B C hP ha hb hc Hb2.out _).mono ?_
          rintro e w1 ⟨rfl, hB1⟩
          have hacc1 := hacc0.below hB1
          have hrow1 := RowX.kept hrow0 hB1
          obtain ⟨c0, c1, c2, cz⟩ := Y0.below hB1
          clear hacc0 hrow0 Y0 hB1
          have hown := hrow1
          unfold RowX at hown
          have hsz1 := hacc1.gr.size
          clear hrow1
          go_wp2_with (at_builtin; refine wpList_append_own_at _ rfl _ _ 34 rfl (w.heap.size + 1) 38 i0 (.agg #[.int .i64 0, .int .i64 0, .int .i64 0]) 3 24 Try.underlying34 hi hz0 hz1 hz2 rfl (by decide) _ _ _ rfl (hown.alloc _) ⟨w1.heap.size, 0, none⟩ 1 1 [.int .i64 A, .int .i64 B, .int .i64 C] rfl rfl ?c1 ?c2 ?c3 ?c4 ?c5 ?_)
          case c1 => exact cell_three _ _ _ _ _
          case c2 => simp [Value.oneCell']
          case c3 => unfold maxLen; omega
          case c4 => omega
          case c5 => simp; omega
          intro v' w3 hown' hgrow _ hat
          have R := Lib.hid (RowL.put (l := ⟨A, B, C⟩) hown')
          have Ac := Lib.hid (hacc1.append hgrow hat)
          clear hown hown' hgrow hat hacc1 c0 c1 c2
          go_wp2
          go_roundw
          case rel => exact ⟨i + 1, by omega, by go_num, by rw [sift_in Hl.out Hb.out, Hzs.out]; exact R.out, Ac.out⟩
          case measure => simp [intOf]; omega
      · have hge : ls.length ≤ i := by omega
        rw [sift_all hge] at hrow
        go_wp2
        go_ret
        exact ⟨_, rfl, hrow.le (by omega), hacc.ret hBel.out (by omega)⟩

theorem JumpsOf_any (a h s q : Int) (hq : q < 2 ^ 63) (w : World) :
    Calls Try.prog 35 #[.agg #[.int .i64 a, .int .i64 h, .int .i64 s], .int .i64 q] w (RetL w (jumpL a h s q)) := by
  cases h1 : pOk a h s q
  · rw [jumpL_no h1]; exact JumpsOf_no a h s q hq h1 w
  · obtain ⟨W, H, S, P, rfl, rfl, rfl, rfl, ok, hP⟩ := pOk_nat h1
    rw [jumpL_yes h1]; exact JumpsOf_yes W H S P ok hP h1 w

set_option maxHeartbeats 800000 in
set_option maxRecDepth 100000 in
theorem UndosOf_no (a h s q : Int) (hq : q < 2 ^ 63) (h1 : pOk a h s q = false) (w : World) :
    Calls Try.prog 36 #[.agg #[.int .i64 a, .int .i64 h, .int .i64 s], .int .i64 q] w (RetL w []) := by
  go_enter Try.func36, Try.ntmps36
  go_wp2_with fail
  refine (PositionOk_b _ _ _ _ _ hq h1 _).mono ?_
  rintro e w1 ⟨rfl, hB1⟩
  have R := Lib.hid (RowX.kept (rowNilL (w.alloc (.cells #[.int .i64 a, .int .i64 h, .int .i64 s] 26)) w.heap.size (w.heap.size + 1) (by simp) (by simp)) hB1)
  have hBel := Lib.hid (((below1 w (.cells #[.int .i64 a, .int .i64 h, .int .i64 s] 26)).more (.cells #[] 38)).andThen hB1)
  clear hB1
  go_wp2
  go_ret
  exact ⟨_, rfl, R.out, hBel.out⟩

set_option maxHeartbeats 800000 in
set_option maxRecDepth 100000 in
theorem UndosOf_yes (W H S P : Nat) (ok : Ok W H S) (hP : P < 2 ^ 49) (h1 : pOk W H S P = true) (w : World) :
    Calls Try.prog 36 #[.agg #[.int .i64 W, .int .i64 H, .int .i64 S], .int .i64 P] w (RetL w ((linesL W H S).filter (canUL P))) := by
  obtain ⟨i0, hi, hz0, hz1, hz2⟩ := info_parts info_line
  have hsh := linesL_short W H S
  have Hnat := Lib.hid (fun i l h => lines_nat ok (i := i) (l := l) h)
  obtain ⟨ls, hls⟩ : ∃ ls, linesL W H S = ls := ⟨_, rfl⟩
  rw [hls] at hsh Hnat ⊢
  have HL := Lib.hid hls
  clear hls ok
  obtain ⟨f, hf⟩ : ∃ f : Ln → Bool, canUL P = f := ⟨_, rfl⟩
  rw [hf]
  have HF := Lib.hid hf
  clear hf
  have H1 := Lib.hid h1
  clear h1
  go_enter Try.func36, Try.ntmps36
  have X0 := BoxAt.new w W H S 26
  have X1 := X0.below (below1 _ (.cells #[] 38))
  obtain ⟨b0, b1, b2, bz⟩ := X1
  clear X0
  go_wp2_with fail
  refine (PositionOk_b true _ _ _ _ (by omega) H1.out _).mono ?_
  rintro e w0 ⟨rfl, hB0⟩
  replace b0 := cell_kept b0 hB0
  replace b1 := cell_kept b1 hB0
  replace b2 := cell_kept b2 hB0
  have R0 := RowX.kept (rowNilL (w.alloc (.cells #[.int .i64 W, .int .i64 H, .int .i64 S] 26)) (w.heap.size + 1) (w.heap.size + 1) (by simp) (by simp)) hB0
  have hBel0 := ((below1 w (.cells #[.int .i64 W, .int .i64 H, .int .i64 S] 26)).more (.cells #[] 38)).andThen hB0
  have hsz0 := hB0.size
  simp at hsz0
  clear hB0 bz
  go_wp2_with fail
  refine (LinesOf_any _ _ _ _).mono ?_
  rintro e ws hr
  obtain ⟨v, rfl, hr1, hB⟩ := hr
  rw [HL.out] at hr1
  have R1 := RowX.kept R0 hB
  have hBel := Lib.hid (hBel0.andThen hB)
  have hsz := hB.size
  clear hB R0 hBel0 b0 b1 b2
  rcases hr1.forms with ⟨h0, q, cap, rfl⟩ | ⟨_, g, cap, rfl, hgB, hgs⟩
  · subst h0
    go_wp2_with fail
    refine wp_loop_rounds 1 ?_
    rw [rounds_succ]
    go_wp2
    go_ret
    exact ⟨_, rfl, R1.le (by omega), hBel.out⟩
  · go_wp2_with fail
    go_loopw [5, 19] (fun v j wr => ∃ i : Nat, i ≤ ls.length ∧ j = .int .i64 i ∧ RowL wr (w.heap.size + 1) v (sift f ls i) ∧ Acc ws (w.heap.size + 1) v wr) (fun _ j _ => ls.length - (intOf j).toNat)
    case atStart => exact ⟨0, by omega, rfl, by rw [sift_zero]; exact R1, Acc.start _ _ _ (fun k hk => by simp [Value.ownBlock] at hk; omega)⟩
    case round =>
      obtain ⟨i, hi2, rfl, hrow, hacc⟩ := hrel
      by_cases hlt : i < ls.length
      · obtain ⟨e0, e1, e2⟩ := RowL.at (RowX.keptBut hr1 hacc.gr (fun k hk e => by simp [Value.ownBlock] at hk e; omega)) i hlt
        obtain ⟨l, hl⟩ : ∃ x, ls[i] = x := ⟨_, rfl⟩
        rw [hl] at e0 e1 e2
        have Hl := Lib.hid (show ls[i]? = some l by rw [← hl]; simp [hlt])
        clear hl
        obtain ⟨A, B, C, rfl, ha, hb, hc, n1, n2, n3⟩ := Hnat.out i l Hl.out
        dsimp only at e0 e1 e2
        have hln := sift_le f ls i
        obtain ⟨zs, hzs⟩ : ∃ zs, sift f ls i = zs := ⟨_, rfl⟩
        rw [hzs] at hrow hln
        have Hzs := Lib.hid hzs
        clear hzs
        have hgw : g < wr.heap.size := by have := hacc.gr.size; omega
        have Y0 := BoxAt.new wr A B C 38
        have hacc0 := hacc.below (below1 wr (.cells #[.int .i64 A, .int .i64 B, .int .i64 C] 38))
        have hrow0 := RowX.kept hrow (below1 wr (.cells #[.int .i64 A, .int .i64 B, .int .i64 C] 38))
        clear hacc hrow
        obtain ⟨b, hb2⟩ : ∃ b, canU P A B C = b := ⟨_, rfl⟩
        have Hb := Lib.hid (show f ⟨A, B, C⟩ = b by rw [← HF.out, ← hb2]; rfl)
        have Hb2 := Lib.hid hb2
        clear hb2
        cases b
        · go_wp2_with fail
          refine (undoFrom_f P A B C hP ha hb hc Hb2.out _).mono ?_
          rintro e w1 ⟨rfl, hB1⟩
          have hacc1 := hacc0.below hB1
          have hrow1 := RowX.kept hrow0 hB1
          clear hacc0 hrow0 Y0 hB1
          go_wp2
          go_roundw
          case rel => exact ⟨i + 1, by omega, by go_num, by rw [sift_out Hl.out Hb.out, Hzs.out]; exact hrow1, hacc1⟩
          case measure => simp [intOf]; omega
        · go_wp2_with fail
          refine (undoFrom_t P A B C hP ha hb hc Hb2.out _).mono ?_
          rintro e w1 ⟨rfl, hB1⟩
          have hacc1 := hacc0.below hB1
          have hrow1 := RowX.kept hrow0 hB1
          obtain ⟨c0, c1, c2, cz⟩ := Y0.below hB1
          clear hacc0 hrow0 Y0 hB1
          have hown := hrow1
          unfold RowX at hown
          have hsz1 := hacc1.gr.size
          clear hrow1
          go_wp2_with (at_builtin; refine wpList_append_own_at _ rfl _ _ 34 rfl (w.heap.size + 1) 38 i0 (.agg #[.int .i64 0, .int .i64 0, .int .i64 0]) 3 24 Try.underlying34 hi hz0 hz1 hz2 rfl (by decide) _ _ _ rfl (hown.alloc _) ⟨w1.heap.size, 0, none⟩ 1 1 [.int .i64 A, .int .i64 B, .int .i64 C] rfl rfl ?c1 ?c2 ?c3 ?c4 ?c5 ?_)
          case c1 => exact cell_three _ _ _ _ _
          case c2 => simp [Value.oneCell']
          case c3 => unfold maxLen; omega
          case c4 => omega
          case c5 => simp; omega
          intro v' w3 hown' hgrow _ hat
          have R := Lib.hid (RowL.put (l := ⟨A, B, C⟩) hown')
          have Ac := Lib.hid (hacc1.append hgrow hat)
          clear hown hown' hgrow hat hacc1 c0 c1 c2
          go_wp2
          go_roundw
          case rel => exact ⟨i + 1, by omega, by go_num, by rw [sift_in Hl.out Hb.out, Hzs.out]; exact R.out, Ac.out⟩
          case measure => simp [intOf]; omega
      · have hge : ls.length ≤ i := by omega
        rw [sift_all hge] at hrow
        go_wp2
        go_ret
        exact ⟨_, rfl, hrow.le (by omega), hacc.ret hBel.out (by omega)⟩

theorem UndosOf_any (a h s q : Int) (hq : q < 2 ^ 63) (w : World) :
    Calls Try.prog 36 #[.agg #[.int .i64 a, .int .i64 h, .int .i64 s], .int .i64 q] w (RetL w (undoL a h s q)) := by
  cases h1 : pOk a h s q
  · rw [undoL_no h1]; exact UndosOf_no a h s q hq h1 w
  · obtain ⟨W, H, S, P, rfl, rfl, rfl, rfl, ok, hP⟩ := pOk_nat h1
    rw [undoL_yes h1]; exact UndosOf_yes W H S P ok hP h1 w

end Go.Proofs.Ytoipnooncnpndaa
