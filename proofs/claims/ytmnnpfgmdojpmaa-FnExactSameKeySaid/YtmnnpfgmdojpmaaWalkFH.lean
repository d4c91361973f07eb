/-
  The walks of FinalHoles (impl and spec).
-/
import Derived.Test.YtmnnpfgmdojpmaaWalkSK
namespace Go.Proofs.Ytmnnpfgmdojpmaa
open Go.RowKit
open Peg
set_option linter.unusedVariables false

theorem held5 {w' w1 ws : World} {n g i b0 B : Nat} {x y z u v : Value} {zs : List Int}
    (h : w'.cell? ⟨n, 0, none⟩ = some x ∧ w'.cell? ⟨n, 1, none⟩ = some y ∧ w'.cell? ⟨n, 2, none⟩ = some z ∧ w'.cell? ⟨g, i, none⟩ = some u ∧ RowI w' B v zs ∧ Acc ws b0 v w') (hb : Below w'.heap.size w' w1) :
    w1.cell? ⟨n, 0, none⟩ = some x ∧ w1.cell? ⟨n, 1, none⟩ = some y ∧ w1.cell? ⟨n, 2, none⟩ = some z ∧ w1.cell? ⟨g, i, none⟩ = some u ∧ RowI w1 B v zs ∧ Acc ws b0 v w1 := by
  obtain ⟨h0, h1, h2, h3, h4, h5⟩ := h
  exact ⟨cell_keptA h0 hb, cell_keptA h1 hb, cell_keptA h2 hb, cell_keptA h3 hb, h4.kept hb, h5.below hb⟩
def siftI (f : Int → Bool) (xs : List Int) (i : Nat) : List Int := (xs.take i).filter f
theorem siftI_zero (f : Int → Bool) (xs : List Int) : siftI f xs 0 = [] := by simp [siftI]
theorem siftI_all {f : Int → Bool} {xs : List Int} {i : Nat} (h : xs.length ≤ i) : siftI f xs i = xs.filter f := by unfold siftI; rw [List.take_of_length_le h]
theorem siftI_in {f : Int → Bool} {xs : List Int} {i : Nat} {l : Int} (h : xs[i]? = some l) (hf : f l = true) : siftI f xs (i + 1) = siftI f xs i ++ [l] := by
  unfold siftI; rw [List.take_add_one, h, List.filter_append]; simp [hf]
theorem siftI_out {f : Int → Bool} {xs : List Int} {i : Nat} {l : Int} (h : xs[i]? = some l) (hf : f l = false) : siftI f xs (i + 1) = siftI f xs i := by
  unfold siftI; rw [List.take_add_one, h, List.filter_append]; simp [hf]
theorem siftI_le (f : Int → Bool) (xs : List Int) (i : Nat) : (siftI f xs i).length ≤ xs.length := Nat.le_trans (List.length_filter_le _ _) (by rw [List.length_take]; omega)
theorem singleF_lt (a h s k : Int) : singleF a h s k < 2 ^ 63 := by
  unfold singleF
  cases h1 : hasB a h s k
  · simp
  · obtain ⟨W, H, S, K, rfl, rfl, rfl, rfl, ok, hK, hb⟩ := has_nat h1
    have := pow48 K hK
    rw [if_pos rfl, Int.toNat_natCast, cast_pow]
    exact_mod_cast this
/-- The holes of a single peg with this key. -/
def finF (a h s q : Int) (k : Int) : Bool := sameK a h s q (singleF a h s k)
def finalL (a h s q : Int) : List Int := (holesL a h s).filter (finF a h s q)
theorem finalL_no {a h s q : Int} (h1 : pOk a h s q = false) : finalL a h s q = [] := by
  unfold finalL
  rw [List.filter_eq_nil_iff]
  intro k _
  unfold finF sameK
  rw [h1]; simp
theorem finalL_len (a h s q : Int) : (finalL a h s q).length ≤ 49 := Nat.le_trans (List.length_filter_le _ _) (holesL_short a h s)

theorem FinalHoles_no (a h s q : Int) (hq : q < 2 ^ 63) (h1 : pOk a h s q = false) (w : World) :
    Calls Try.prog 31 #[.agg #[.int .i64 a, .int .i64 h, .int .i64 s], .int .i64 q] w (RetI w []) := by
  go_enter Try.func31, Try.ntmps31
  go_wp2_with fail
  refine (PositionOk_b _ _ _ _ _ hq h1 _).mono ?_
  rintro e w1 ⟨rfl, hB1⟩
  go_wp2
  go_ret
  exact ⟨_, rfl, ⟨rfl, .inl ⟨rfl, rfl⟩⟩, (below1 _ _).andThen hB1⟩

set_option maxHeartbeats 1600000 in
set_option maxRecDepth 100000 in
theorem FinalHoles_yes (a h s q : Int) (hq : q < 2 ^ 63) (h1 : pOk a h s q = true) (w : World) :
    Calls Try.prog 31 #[.agg #[.int .i64 a, .int .i64 h, .int .i64 s], .int .i64 q] w (RetI w (finalL a h s q)) := by
  obtain ⟨i0, hi, hz0, hz1, hz2⟩ := info_parts info_int
  unfold finalL
  have hsh := holesL_short a h s
  have hho := fun w => HolesOf_any a h s w
  generalize holesL a h s = xs at hsh hho ⊢
  have HH := Lib.hid hho
  obtain ⟨f, hf⟩ : ∃ f : Int → Bool, finF a h s q = f := ⟨_, rfl⟩
  rw [hf]
  have HF := Lib.hid hf
  clear hf hho
  go_enter Try.func31, Try.ntmps31
  have X0 := BoxAt.new w a h s 33
  obtain ⟨b0, b1, b2, bz⟩ := X0
  clear bz
  go_wp2_with fail
  refine (PositionOk_b true _ _ _ _ hq h1 _).mono ?_
  rintro e w1 ⟨rfl, hB1⟩
  replace b0 := cell_keptA (cell_keptA b0 hB1) (below1 _ (.cells #[] 3))
  replace b1 := cell_keptA (cell_keptA b1 hB1) (below1 _ (.cells #[] 3))
  replace b2 := cell_keptA (cell_keptA b2 hB1) (below1 _ (.cells #[] 3))
  have hBel1 := ((below1 w (.cells #[.int .i64 a, .int .i64 h, .int .i64 s] 33)).andThen hB1).more (.cells #[] 3)
  have hsz1 := hB1.size
  simp at hsz1
  have R0 := rowNil w1 w1.heap.size w1.heap.size (Nat.le_refl _) rfl
  obtain ⟨L, hL⟩ : ∃ L, w1.heap.size = L := ⟨_, rfl⟩
  rw [hL] at R0 hsz1
  clear hB1
  go_wp2_with fail
  refine (HH.out _).mono ?_
  rintro e ws hr
  obtain ⟨v, rfl, hr1, hB2⟩ := hr
  have R1 := R0.kept hB2
  replace b0 := Lib.hid (cell_keptA b0 hB2)
  replace b1 := Lib.hid (cell_keptA b1 hB2)
  replace b2 := Lib.hid (cell_keptA b2 hB2)
  have hBel := Lib.hid (hBel1.andThen hB2)
  have hsz2 := hB2.size
  simp at hsz2
  clear hB2 hBel1 R0
  have hLw : w.heap.size < L := by omega
  have hLs : L < ws.heap.size := by omega
  rcases hr1.forms with ⟨rfl, p, cap, rfl⟩ | ⟨hx, g, cap, rfl, hgB, hgs, _⟩
  · go_wp2_with fail
    refine wp_loop_rounds 1 ?_
    rw [rounds_succ]
    go_wp2
    go_ret
    exact ⟨_, rfl, (by first | (subst hL; exact R1.le (by omega)) | (rw [hL]; exact R1.le (by omega))), hBel.out⟩
  · simp at hgB
    have hLg : L < g := by omega
    go_wp2_with fail
    (try rw [hL])
    go_loopw [5, 16] (fun v j wr => ∃ i : Nat, i ≤ xs.length ∧ j = .int .i64 i ∧ RowI wr L v (siftI f xs i) ∧ Acc ws L v wr) (fun _ j _ => xs.length - (intOf j).toNat)
    case atStart => exact ⟨0, by omega, rfl, by rw [siftI_zero]; exact R1, Acc.start _ _ _ (fun k hk => by simp [Value.ownBlock] at hk; omega)⟩
    case round =>
      obtain ⟨i, hi2, rfl, hrow, hacc⟩ := hrel
      by_cases hlt : ¬ i < xs.length
      · have hge : xs.length ≤ i := by omega
        rw [siftI_all hge] at hrow
        go_wp2
        go_ret
        exact ⟨_, rfl, hrow.le (by omega), hacc.ret hBel.out (by omega)⟩
      have hlt : i < xs.length := by omega
      have e0 := RowI.at (RowI.keptBut hr1 hacc.gr (fun k hk e => by simp [Value.ownBlock] at hk e; omega)) i hlt
      obtain ⟨K, hK⟩ : ∃ K, xs[i]?.getD 0 = K := ⟨_, rfl⟩
      rw [hK] at e0
      have Hl := Lib.hid (show xs[i]? = some K by rw [List.getElem?_eq_getElem hlt] at hK ⊢; simpa using hK)
      clear hK
      have c0 := hacc.gr.cell b0.out (by simp; omega)
      have c1 := hacc.gr.cell b1.out (by simp; omega)
      have c2 := hacc.gr.cell b2.out (by simp; omega)
      have hszg : g < wr.heap.size := World.block_lt_of_cell? wr ⟨g, _, none⟩ e0
      have hszw : w.heap.size < wr.heap.size := World.block_lt_of_cell? wr ⟨w.heap.size, 0, none⟩ c0
      have hln := siftI_le f xs i
      obtain ⟨zs, hzs⟩ : ∃ zs, siftI f xs i = zs := ⟨_, rfl⟩
      rw [hzs] at hrow hln
      have Hzs := Lib.hid hzs
      clear hzs
      have hsF := singleF_lt a h s K
      have hI0 : (0 : Int) ≤ (i : Int) := by omega
      have hI1 : (i : Int) < (xs.length : Int) := by omega
      obtain ⟨b, hb2⟩ : ∃ b, f K = b := ⟨_, rfl⟩
      have Hb := Lib.hid hb2
      have Hb2 := Lib.hid (show sameK a h s q (singleF a h s K) = b by rw [← hb2, ← HF.out]; rfl)
      clear hb2
      go_wp2_with fail
      go_region_held3 (fun w' : World => w'.cell? ⟨w.heap.size, 0, none⟩ = some (.int .i64 a) ∧ w'.cell? ⟨w.heap.size, 1, none⟩ = some (.int .i64 h) ∧ w'.cell? ⟨w.heap.size, 2, none⟩ = some (.int .i64 s) ∧ w'.cell? ⟨g, i, none⟩ = some (.int .i64 K) ∧ RowI w' L u5 zs ∧ Acc ws L u5 w')
        (first | assumption | exact ⟨c0, c1, c2, e0, hrow, hacc.drew⟩ | exact held5 (by assumption) hB1)
        (first | (go_at_call 52; refine (SinglePeg_any a h s K _).mono ?_; rintro e w1 ⟨rfl, hB1⟩) | (go_at_call 27; refine (SameKey_b b a h s q (singleF a h s K) hq hsF Hb2.out _).mono ?_; rintro e w1 ⟨rfl, hB1⟩))
      clear c0 c1 c2 e0 hrow hacc
      rename_i hX
      obtain ⟨c0, c1, c2, e0, hrow1, hacc1⟩ := hX
      have hszw := hacc1.gr.size
      cases b
      · go_wp2
        go_roundw
        case rel => exact ⟨i + 1, by omega, by go_num, by rw [siftI_out Hl.out Hb.out, Hzs.out]; exact hrow1, hacc1⟩
        case measure => simp [intOf]; omega
      · have hown := hrow1
        unfold RowI at hown
        clear hrow1
        obtain ⟨wq, hwq⟩ : ∃ wq, wq = w1 := ⟨_, rfl⟩
        go_wp2_with (at_builtin; refine wpList_append_own_at _ rfl _ _ 31 rfl L 3 i0 (.int .i64 0) 1 8 Try.underlying31 hi hz0 hz1 hz2 rfl (by decide) _ _ _ rfl (hown.alloc _) ⟨w1.heap.size, 0, none⟩ 1 1 [.int .i64 K] rfl rfl ?c1 ?c2 ?c3 ?c4 ?c5 ?_)
        case c1 => exact cell_one_new _ _ _
        case c2 => simp [Value.oneCell']
        case c3 => unfold maxLen; omega
        case c4 => omega
        case c5 => simp; omega
        intro v' w3 hown' hgrow _ hat
        have R := Lib.hid (RowI.put (x := K) hown')
        have Ac := Lib.hid (hacc1.append hgrow hat)
        clear hown hown' hgrow hat hacc1 c0 c1 c2 e0
        go_wp2
        go_roundw
        case rel => exact ⟨i + 1, by omega, by go_num, by rw [siftI_in Hl.out Hb.out, Hzs.out]; exact R.out, Ac.out⟩
        case measure => simp [intOf]; omega

set_option maxHeartbeats 1600000 in
set_option maxRecDepth 100000 in
theorem specFinalHoles_yes (a h s q : Int) (hq : q < 2 ^ 63) (w : World) :
    Calls Try.prog 30 #[.agg #[.int .i64 a, .int .i64 h, .int .i64 s], .int .i64 q] w (RetI w (finalL a h s q)) := by
  obtain ⟨i0, hi, hz0, hz1, hz2⟩ := info_parts info_int
  unfold finalL
  have hsh := holesL_short a h s
  have hho := fun w => specHolesOf_any a h s w
  generalize holesL a h s = xs at hsh hho ⊢
  have HH := Lib.hid hho
  obtain ⟨f, hf⟩ : ∃ f : Int → Bool, finF a h s q = f := ⟨_, rfl⟩
  rw [hf]
  have HF := Lib.hid hf
  clear hf hho
  go_enter Try.func30, Try.ntmps30
  have X0 := BoxAt.new w a h s 33
  obtain ⟨b0, b1, b2, bz⟩ := X0
  clear bz
  replace b0 := cell_keptA b0 (below1 _ (.cells #[] 3))
  replace b1 := cell_keptA b1 (below1 _ (.cells #[] 3))
  replace b2 := cell_keptA b2 (below1 _ (.cells #[] 3))
  have hBel1 := (below1 w (.cells #[.int .i64 a, .int .i64 h, .int .i64 s] 33)).more (.cells #[] 3)
  have R0 := rowNil (w.alloc (.cells #[.int .i64 a, .int .i64 h, .int .i64 s] 33)) (w.heap.size + 1) (w.heap.size + 1) (by simp) (by simp)
  obtain ⟨L, hL⟩ : ∃ L, w.heap.size + 1 = L := ⟨_, rfl⟩
  rw [hL] at R0
  go_wp2_with fail
  refine (HH.out _).mono ?_
  rintro e ws hr
  obtain ⟨v, rfl, hr1, hB2⟩ := hr
  have R1 := R0.kept hB2
  replace b0 := Lib.hid (cell_keptA b0 hB2)
  replace b1 := Lib.hid (cell_keptA b1 hB2)
  replace b2 := Lib.hid (cell_keptA b2 hB2)
  have hBel := Lib.hid (hBel1.andThen hB2)
  have hsz2 := hB2.size
  simp at hsz2
  clear hB2 hBel1 R0
  have hLw : w.heap.size < L := by omega
  have hLs : L < ws.heap.size := by omega
  rcases hr1.forms with ⟨rfl, p, cap, rfl⟩ | ⟨hx, g, cap, rfl, hgB, hgs, _⟩
  · go_wp2_with fail
    refine wp_loop_rounds 1 ?_
    rw [rounds_succ]
    go_wp2
    go_ret
    exact ⟨_, rfl, (by first | (subst hL; exact R1.le (by omega)) | (rw [hL]; exact R1.le (by omega))), hBel.out⟩
  · simp at hgB
    have hLg : L < g := by omega
    go_wp2_with fail
    (try rw [hL])
    go_loopw [5, 7] (fun v j wr => ∃ i : Nat, i ≤ xs.length ∧ j = .int .i64 i ∧ RowI wr L v (siftI f xs i) ∧ Acc ws L v wr) (fun _ j _ => xs.length - (intOf j).toNat)
    case atStart => exact ⟨0, by omega, rfl, by rw [siftI_zero]; exact R1, Acc.start _ _ _ (fun k hk => by simp [Value.ownBlock] at hk; omega)⟩
    case round =>
      obtain ⟨i, hi2, rfl, hrow, hacc⟩ := hrel
      by_cases hlt : ¬ i < xs.length
      · have hge : xs.length ≤ i := by omega
        rw [siftI_all hge] at hrow
        go_wp2
        go_ret
        exact ⟨_, rfl, hrow.le (by omega), hacc.ret hBel.out (by omega)⟩
      have hlt : i < xs.length := by omega
      have e0 := RowI.at (RowI.keptBut hr1 hacc.gr (fun k hk e => by simp [Value.ownBlock] at hk e; omega)) i hlt
      obtain ⟨K, hK⟩ : ∃ K, xs[i]?.getD 0 = K := ⟨_, rfl⟩
      rw [hK] at e0
      have Hl := Lib.hid (show xs[i]? = some K by rw [List.getElem?_eq_getElem hlt] at hK ⊢; simpa using hK)
      clear hK
      have c0 := hacc.gr.cell b0.out (by simp; omega)
      have c1 := hacc.gr.cell b1.out (by simp; omega)
      have c2 := hacc.gr.cell b2.out (by simp; omega)
      have hszg : g < wr.heap.size := World.block_lt_of_cell? wr ⟨g, _, none⟩ e0
      have hszw : w.heap.size < wr.heap.size := World.block_lt_of_cell? wr ⟨w.heap.size, 0, none⟩ c0
      have hln := siftI_le f xs i
      obtain ⟨zs, hzs⟩ : ∃ zs, siftI f xs i = zs := ⟨_, rfl⟩
      rw [hzs] at hrow hln
      have Hzs := Lib.hid hzs
      clear hzs
      have hsF := singleF_lt a h s K
      have hI0 : (0 : Int) ≤ (i : Int) := by omega
      have hI1 : (i : Int) < (xs.length : Int) := by omega
      obtain ⟨b, hb2⟩ : ∃ b, f K = b := ⟨_, rfl⟩
      have Hb := Lib.hid hb2
      have Hb2 := Lib.hid (show sameK a h s q (singleF a h s K) = b by rw [← hb2, ← HF.out]; rfl)
      clear hb2
      go_wp2_with fail
      go_region_held3 (fun w' : World => w'.cell? ⟨w.heap.size, 0, none⟩ = some (.int .i64 a) ∧ w'.cell? ⟨w.heap.size, 1, none⟩ = some (.int .i64 h) ∧ w'.cell? ⟨w.heap.size, 2, none⟩ = some (.int .i64 s) ∧ w'.cell? ⟨g, i, none⟩ = some (.int .i64 K) ∧ RowI w' L u5 zs ∧ Acc ws L u5 w')
        (first | assumption | exact ⟨c0, c1, c2, e0, hrow, hacc.drew⟩ | exact held5 (by assumption) hB1)
        (first | (go_at_call 51; refine (specSinglePeg_any a h s K _).mono ?_; rintro e w1 ⟨rfl, hB1⟩) | (go_at_call 26; refine (specSameKey_b b a h s q (singleF a h s K) hq hsF Hb2.out _).mono ?_; rintro e w1 ⟨rfl, hB1⟩))
      clear c0 c1 c2 e0 hrow hacc
      rename_i hX
      obtain ⟨c0, c1, c2, e0, hrow1, hacc1⟩ := hX
      have hszw := hacc1.gr.size
      cases b
      · go_wp2
        go_roundw
        case rel => exact ⟨i + 1, by omega, by go_num, by rw [siftI_out Hl.out Hb.out, Hzs.out]; exact hrow1, hacc1⟩
        case measure => simp [intOf]; omega
      · have hown := hrow1
        unfold RowI at hown
        clear hrow1
        obtain ⟨wq, hwq⟩ : ∃ wq, wq = w1 := ⟨_, rfl⟩
        go_wp2_with (at_builtin; refine wpList_append_own_at _ rfl _ _ 31 rfl L 3 i0 (.int .i64 0) 1 8 Try.underlying31 hi hz0 hz1 hz2 rfl (by decide) _ _ _ rfl (hown.alloc _) ⟨w1.heap.size, 0, none⟩ 1 1 [.int .i64 K] rfl rfl ?c1 ?c2 ?c3 ?c4 ?c5 ?_)
        case c1 => exact cell_one_new _ _ _
        case c2 => simp [Value.oneCell']
        case c3 => unfold maxLen; omega
        case c4 => omega
        case c5 => simp; omega
        intro v' w3 hown' hgrow _ hat
        have R := Lib.hid (RowI.put (x := K) hown')
        have Ac := Lib.hid (hacc1.append hgrow hat)
        clear hown hown' hgrow hat hacc1 c0 c1 c2 e0
        go_wp2
        go_roundw
        case rel => exact ⟨i + 1, by omega, by go_num, by rw [siftI_in Hl.out Hb.out, Hzs.out]; exact R.out, Ac.out⟩
        case measure => simp [intOf]; omega

theorem FinalHoles_any (a h s q : Int) (hq : q < 2 ^ 63) (w : World) :
    Calls Try.prog 31 #[.agg #[.int .i64 a, .int .i64 h, .int .i64 s], .int .i64 q] w (RetI w (finalL a h s q)) := by
  cases h1 : pOk a h s q
  · rw [finalL_no h1]; exact FinalHoles_no a h s q hq h1 w
  · exact FinalHoles_yes a h s q hq h1 w

theorem specFinalHoles_any (a h s q : Int) (hq : q < 2 ^ 63) (w : World) :
    Calls Try.prog 30 #[.agg #[.int .i64 a, .int .i64 h, .int .i64 s], .int .i64 q] w (RetI w (finalL a h s q)) := specFinalHoles_yes a h s q hq w
end Go.Proofs.Ytmnnpfgmdojpmaa
