/-
  The walks of LinesThrough (impl and spec).
-/
import Derived.Test.YtoipnooncnpndaaWalkP
import Derived.Test.YtoipnooncnpndaaWalkR
namespace Go.Proofs.Ytoipnooncnpndaa
open Go.RowKit
open Peg
set_option linter.unusedVariables false

/-- The first i lines that are let through. -/
def sift (f : Ln → Bool) (ls : List Ln) (i : Nat) : List Ln := (ls.take i).filter f
theorem sift_zero (f : Ln → Bool) (ls : List Ln) : sift f ls 0 = [] := by simp [sift]
theorem sift_all {f : Ln → Bool} {ls : List Ln} {i : Nat} (h : ls.length ≤ i) : sift f ls i = ls.filter f := by unfold sift; rw [List.take_of_length_le h]
theorem sift_in {f : Ln → Bool} {ls : List Ln} {i : Nat} {l : Ln} (h : ls[i]? = some l) (hf : f l = true) : sift f ls (i + 1) = sift f ls i ++ [l] := by
  unfold sift; rw [List.take_add_one, h, List.filter_append]; simp [hf]
theorem sift_out {f : Ln → Bool} {ls : List Ln} {i : Nat} {l : Ln} (h : ls[i]? = some l) (hf : f l = false) : sift f ls (i + 1) = sift f ls i := by
  unfold sift; rw [List.take_add_one, h, List.filter_append]; simp [hf]
theorem sift_le (f : Ln → Bool) (ls : List Ln) (i : Nat) : (sift f ls i).length ≤ ls.length := Nat.le_trans (List.length_filter_le _ _) (by rw [List.length_take]; omega)

set_option maxHeartbeats 800000 in
set_option maxRecDepth 100000 in
theorem LinesThrough_any (a h s k : Int) (w : World) :
    Calls Try.prog 22 #[.agg #[.int .i64 a, .int .i64 h, .int .i64 s], .int .i64 k] w (RetL w (throughL a h s k)) := by
  obtain ⟨i0, hi, hz0, hz1, hz2⟩ := info_parts info_line
  unfold throughL
  have hsh := linesL_short a h s
  obtain ⟨ls, hls⟩ : ∃ ls, linesL a h s = ls := ⟨_, rfl⟩
  rw [hls] at hsh ⊢
  have HL := Lib.hid hls
  clear hls
  obtain ⟨f, hf⟩ : ∃ f : Ln → Bool, (fun l => onL l k) = f := ⟨_, rfl⟩
  rw [hf]
  have HF := Lib.hid hf
  clear hf
  go_enter Try.func22, Try.ntmps22
  have X0 := BoxAt.new w a h s 26
  go_wp2_with fail
  refine (LinesOf_any _ _ _ _).mono ?_
  rintro e ws hr
  obtain ⟨v, rfl, hr1, hB⟩ := hr
  rw [HL.out] at hr1
  have R1 := RowX.kept (rowNilL (w.alloc (.cells #[.int .i64 a, .int .i64 h, .int .i64 s] 26)) (w.heap.size + 1) (w.heap.size + 1) (by simp) (by simp)) hB
  have hBel := Lib.hid (((below1 w (.cells #[.int .i64 a, .int .i64 h, .int .i64 s] 26)).more (.cells #[] 38)).andThen hB)
  have hsz := hB.size
  simp at hsz
  clear X0 hB
  rcases hr1.forms with ⟨h0, q, cap, rfl⟩ | ⟨_, g, cap, rfl, hgB, hgs⟩
  · subst h0
    go_wp2_with fail
    refine wp_loop_rounds 1 ?_
    rw [rounds_succ]
    go_wp2
    go_ret
    exact ⟨_, rfl, R1.le (by omega), hBel.out⟩
  · go_wp2_with fail
    simp at hgB
    go_loopw [5, 12] (fun v j wr => ∃ i : Nat, i ≤ ls.length ∧ j = .int .i64 i ∧ RowL wr (w.heap.size + 1) v (sift f ls i) ∧ Acc ws (w.heap.size + 1) v wr) (fun _ j _ => ls.length - (intOf j).toNat)
    case atStart => exact ⟨0, by omega, rfl, by rw [sift_zero]; exact R1, Acc.start _ _ _ (fun k hk => by simp [Value.ownBlock] at hk; omega)⟩
    case round =>
      obtain ⟨i, hi2, rfl, hrow, hacc⟩ := hrel
      by_cases hlt : i < ls.length
      · obtain ⟨e0, e1, e2⟩ := RowL.at (RowX.keptBut hr1 hacc.gr (fun k hk e => by simp [Value.ownBlock] at hk e; omega)) i hlt
        obtain ⟨l, hl⟩ : ∃ x, ls[i] = x := ⟨_, rfl⟩
        rw [hl] at e0 e1 e2
        have Hl := Lib.hid (show ls[i]? = some l by rw [← hl]; simp [hlt])
        clear hl
        obtain ⟨la, lb, lc⟩ := l
        dsimp only at e0 e1 e2
        have hln := sift_le f ls i
        obtain ⟨zs, hzs⟩ : ∃ zs, sift f ls i = zs := ⟨_, rfl⟩
        rw [hzs] at hrow hln
        have Hzs := Lib.hid hzs
        clear hzs
        have hgw : g < wr.heap.size := by have := hacc.gr.size; omega
        have Y0 := BoxAt.new wr la lb lc 38
        have hacc0 := hacc.below (below1 wr (.cells #[.int .i64 la, .int .i64 lb, .int .i64 lc] 38))
        have hrow0 := RowX.kept hrow (below1 wr (.cells #[.int .i64 la, .int .i64 lb, .int .i64 lc] 38))
        clear hacc hrow
        obtain ⟨b, hb⟩ : ∃ b, onL ⟨la, lb, lc⟩ k = b := ⟨_, rfl⟩
        have Hb := Lib.hid (show f ⟨la, lb, lc⟩ = b by rw [← HF.out, ← hb])
        have Hb2 := Lib.hid hb
        clear hb
        go_wp2_with fail
        refine (touches_b b la lb lc k Hb2.out _).mono ?_
        rintro e w1 ⟨rfl, hB1⟩
        have hacc1 := hacc0.below hB1
        have hrow1 := RowX.kept hrow0 hB1
        obtain ⟨c0, c1, c2, cz⟩ := Y0.below hB1
        clear hacc0 hrow0 Y0 hB1
        cases b
        · go_wp2
          go_roundw
          case rel => exact ⟨i + 1, by omega, by go_num, by rw [sift_out Hl.out Hb.out, Hzs.out]; exact hrow1, hacc1⟩
          case measure => simp [intOf]; omega
        · have hown := hrow1
          unfold RowX at hown
          have hsz1 := hacc1.gr.size
          clear hrow1
          go_wp2_with (at_builtin; refine wpList_append_own_at _ rfl _ _ 34 rfl (w.heap.size + 1) 38 i0 (.agg #[.int .i64 0, .int .i64 0, .int .i64 0]) 3 24 Try.underlying34 hi hz0 hz1 hz2 rfl (by decide) _ _ _ rfl (hown.alloc _) ⟨w1.heap.size, 0, none⟩ 1 1 [.int .i64 la, .int .i64 lb, .int .i64 lc] rfl rfl ?c1 ?c2 ?c3 ?c4 ?c5 ?_)
          case c1 => exact cell_three _ _ _ _ _
          case c2 => simp [Value.oneCell']
          case c3 => unfold maxLen; omega
          case c4 => omega
          case c5 => simp; omega
          intro v' w3 hown' hgrow _ hat
          have R := Lib.hid (RowL.put (l := ⟨la, lb, lc⟩) hown')
          have A := Lib.hid (hacc1.append hgrow hat)
          clear hown hown' hgrow hat hacc1 c0 c1 c2
          go_wp2
          go_roundw
          case rel => exact ⟨i + 1, by omega, by go_num, by rw [sift_in Hl.out Hb.out, Hzs.out]; exact R.out, A.out⟩
          case measure => simp [intOf]; omega
      · have hge : ls.length ≤ i := by omega
        rw [sift_all hge] at hrow
        go_wp2
        go_ret
        exact ⟨_, rfl, hrow.le (by omega), hacc.ret hBel.out (by omega)⟩
end Go.Proofs.Ytoipnooncnpndaa
