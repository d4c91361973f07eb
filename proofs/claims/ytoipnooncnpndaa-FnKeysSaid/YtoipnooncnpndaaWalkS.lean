/-
  The walks of PlayAll, UndoAll, IsSolution (impl and spec).
-/
import Derived.Test.YtoipnooncnpndaaGame
import Derived.Deep.RegionHeld3
namespace Go.Proofs.Ytoipnooncnpndaa
open Go.RowKit
open Peg
set_option linter.unusedVariables false

theorem heldG {w w' w1 : World} {n m o0 o1 o2 : Nat} {a b c d e f : Value}
    (h : w'.cell? ⟨n, 0, none⟩ = some a ∧ w'.cell? ⟨n, 1, none⟩ = some b ∧ w'.cell? ⟨n, 2, none⟩ = some c ∧ w'.cell? ⟨m, o0, none⟩ = some d ∧ w'.cell? ⟨m, o1, none⟩ = some e ∧ w'.cell? ⟨m, o2, none⟩ = some f ∧ Below w.heap.size w w') (hb : Below w'.heap.size w' w1) :
    w1.cell? ⟨n, 0, none⟩ = some a ∧ w1.cell? ⟨n, 1, none⟩ = some b ∧ w1.cell? ⟨n, 2, none⟩ = some c ∧ w1.cell? ⟨m, o0, none⟩ = some d ∧ w1.cell? ⟨m, o1, none⟩ = some e ∧ w1.cell? ⟨m, o2, none⟩ = some f ∧ Below w.heap.size w w1 := by
  obtain ⟨h0, h1, h2, h3, h4, h5, h6⟩ := h
  exact ⟨cell_kept h0 hb, cell_kept h1 hb, cell_kept h2 hb, cell_kept h3 hb, cell_kept h4 hb, cell_kept h5 hb, h6.andThen hb⟩

theorem DoJump_ln (a h s r la lb lc : Int) (hr : r < 2 ^ 63) (ho : jump1 a h s r ⟨la, lb, lc⟩ = none) (w : World) :
    Calls Try.prog 37 #[.agg #[.int .i64 a, .int .i64 h, .int .i64 s], .int .i64 r, .agg #[.int .i64 la, .int .i64 lb, .int .i64 lc]] w fun e w' => e = .returned (.tuple #[.int .i64 r, .bool false]) ∧ Below w.heap.size w w' := by
  have := DoJump_any a h s r la lb lc hr w
  unfold jump1 at ho
  rw [ho] at this; exact this
theorem DoJump_ls (a h s r la lb lc : Int) (r2 : Nat) (hr : r < 2 ^ 63) (ho : jump1 a h s r ⟨la, lb, lc⟩ = some r2) (w : World) :
    Calls Try.prog 37 #[.agg #[.int .i64 a, .int .i64 h, .int .i64 s], .int .i64 r, .agg #[.int .i64 la, .int .i64 lb, .int .i64 lc]] w fun e w' => e = .returned (.tuple #[.int .i64 r2, .bool true]) ∧ Below w.heap.size w w' := by
  have := DoJump_any a h s r la lb lc hr w
  unfold jump1 at ho
  rw [ho] at this; exact this

theorem UndoJump_ln (a h s r la lb lc : Int) (hr : r < 2 ^ 63) (ho : undo1 a h s r ⟨la, lb, lc⟩ = none) (w : World) :
    Calls Try.prog 38 #[.agg #[.int .i64 a, .int .i64 h, .int .i64 s], .int .i64 r, .agg #[.int .i64 la, .int .i64 lb, .int .i64 lc]] w fun e w' => e = .returned (.tuple #[.int .i64 r, .bool false]) ∧ Below w.heap.size w w' := by
  have := UndoJump_any a h s r la lb lc hr w
  unfold undo1 at ho
  rw [ho] at this; exact this
theorem UndoJump_ls (a h s r la lb lc : Int) (r2 : Nat) (hr : r < 2 ^ 63) (ho : undo1 a h s r ⟨la, lb, lc⟩ = some r2) (w : World) :
    Calls Try.prog 38 #[.agg #[.int .i64 a, .int .i64 h, .int .i64 s], .int .i64 r, .agg #[.int .i64 la, .int .i64 lb, .int .i64 lc]] w fun e w' => e = .returned (.tuple #[.int .i64 r2, .bool true]) ∧ Below w.heap.size w w' := by
  have := UndoJump_any a h s r la lb lc hr w
  unfold undo1 at ho
  rw [ho] at this; exact this

theorem specDoJump_ln (a h s r la lb lc : Int) (hr : r < 2 ^ 63) (ho : jump1 a h s r ⟨la, lb, lc⟩ = none) (w : World) :
    Calls Try.prog 80 #[.agg #[.int .i64 a, .int .i64 h, .int .i64 s], .int .i64 r, .agg #[.int .i64 la, .int .i64 lb, .int .i64 lc]] w fun e w' => e = .returned (.tuple #[.int .i64 r, .bool false]) ∧ Below w.heap.size w w' := by
  have := specDoJump_any a h s r la lb lc hr w
  unfold jump1 at ho
  rw [ho] at this; exact this
theorem specDoJump_ls (a h s r la lb lc : Int) (r2 : Nat) (hr : r < 2 ^ 63) (ho : jump1 a h s r ⟨la, lb, lc⟩ = some r2) (w : World) :
    Calls Try.prog 80 #[.agg #[.int .i64 a, .int .i64 h, .int .i64 s], .int .i64 r, .agg #[.int .i64 la, .int .i64 lb, .int .i64 lc]] w fun e w' => e = .returned (.tuple #[.int .i64 r2, .bool true]) ∧ Below w.heap.size w w' := by
  have := specDoJump_any a h s r la lb lc hr w
  unfold jump1 at ho
  rw [ho] at this; exact this

set_option maxHeartbeats 400000 in
theorem PlayAll_1 (a h s q : Int) (hq : q < 2 ^ 63) (p : Option Addr) (cap : Nat) (ls : List Ln) (h1 : pOk a h s q = false) (w : World) :
    Calls Try.prog 52 #[.agg #[.int .i64 a, .int .i64 h, .int .i64 s], .int .i64 q, .slice p ls.length cap] w (RetR w none q) := by
  go_enter Try.func52, Try.ntmps52
  go_wp2_with fail
  refine (PositionOk_b false _ _ _ _ hq h1 _).mono ?_
  rintro e w1 ⟨rfl, hB1⟩
  go_wp2
  go_ret2
  exact ⟨rfl, (below1 _ _).andThen hB1⟩

set_option maxHeartbeats 400000 in
theorem PlayAll_2 (a h s q : Int) (hq : q < 2 ^ 63) (p : Option Addr) (cap : Nat) (ls : List Ln) (h1 : pOk a h s q = true) (h2 : ¬ ls.length ≤ 60) (w : World) :
    Calls Try.prog 52 #[.agg #[.int .i64 a, .int .i64 h, .int .i64 s], .int .i64 q, .slice p ls.length cap] w (RetR w none q) := by
  have h3 : (60 : Int) < (ls.length : Int) := by omega
  go_enter Try.func52, Try.ntmps52
  go_wp2_with fail
  refine (PositionOk_b true _ _ _ _ hq h1 _).mono ?_
  rintro e w1 ⟨rfl, hB1⟩
  go_wp2
  go_ret2
  exact ⟨rfl, (below1 _ _).andThen hB1⟩

set_option maxHeartbeats 400000 in
theorem UndoAll_1 (a h s q : Int) (hq : q < 2 ^ 63) (p : Option Addr) (cap : Nat) (ls : List Ln) (h1 : pOk a h s q = false) (w : World) :
    Calls Try.prog 53 #[.agg #[.int .i64 a, .int .i64 h, .int .i64 s], .int .i64 q, .slice p ls.length cap] w (RetR w none q) := by
  go_enter Try.func53, Try.ntmps53
  go_wp2_with fail
  refine (PositionOk_b false _ _ _ _ hq h1 _).mono ?_
  rintro e w1 ⟨rfl, hB1⟩
  go_wp2
  go_ret2
  exact ⟨rfl, (below1 _ _).andThen hB1⟩

set_option maxHeartbeats 400000 in
theorem UndoAll_2 (a h s q : Int) (hq : q < 2 ^ 63) (p : Option Addr) (cap : Nat) (ls : List Ln) (h1 : pOk a h s q = true) (h2 : ¬ ls.length ≤ 60) (w : World) :
    Calls Try.prog 53 #[.agg #[.int .i64 a, .int .i64 h, .int .i64 s], .int .i64 q, .slice p ls.length cap] w (RetR w none q) := by
  have h3 : (60 : Int) < (ls.length : Int) := by omega
  go_enter Try.func53, Try.ntmps53
  go_wp2_with fail
  refine (PositionOk_b true _ _ _ _ hq h1 _).mono ?_
  rintro e w1 ⟨rfl, hB1⟩
  go_wp2
  go_ret2
  exact ⟨rfl, (below1 _ _).andThen hB1⟩

set_option maxHeartbeats 800000 in
set_option maxRecDepth 100000 in
theorem PlayAll_3 (a h s q : Int) (hq : q < 2 ^ 63) (p : Option Addr) (cap : Nat) (ls : List Ln) (h1 : pOk a h s q = true) (h2 : ls.length ≤ 60) (w : World) (hl : LinesAt w p ls) :
    Calls Try.prog 52 #[.agg #[.int .i64 a, .int .i64 h, .int .i64 s], .int .i64 q, .slice p ls.length cap] w (RetR w (stepsO (jump1 a h s) q ls) q) := by
  have h3 : ¬ (60 : Int) < (ls.length : Int) := by omega
  go_enter Try.func52, Try.ntmps52
  have X0 := BoxAt.new w a h s 26
  have HL0 := hl.kept (below1 w (.cells #[.int .i64 a, .int .i64 h, .int .i64 s] 26))
  have hBel0 := below1 w (.cells #[.int .i64 a, .int .i64 h, .int .i64 s] 26)
  obtain ⟨b0, b1, b2, bz⟩ := X0
  clear bz hl
  go_wp2_with fail
  refine (PositionOk_b true _ _ _ _ hq h1 _).mono ?_
  rintro e w1 ⟨rfl, hB1⟩
  replace b0 := Lib.hid (cell_kept b0 hB1)
  replace b1 := Lib.hid (cell_kept b1 hB1)
  replace b2 := Lib.hid (cell_kept b2 hB1)
  have HL1 := Lib.hid (HL0.kept hB1)
  have hBel1 := Lib.hid (hBel0.andThen hB1)
  clear HL0 hBel0 hB1
  go_wp2_with fail
  go_loopw [8, 26] (fun now j wr => ∃ (k : Nat) (r : Int), k ≤ ls.length ∧ j = .int .i64 k ∧ now = .int .i64 r ∧ r < 2 ^ 63 ∧ stepsO (jump1 a h s) q (ls.take k) = some r ∧ Below w1.heap.size w1 wr) (fun _ j _ => ls.length - (intOf j).toNat)
  case atStart => exact ⟨0, q, by omega, rfl, rfl, hq, rfl, Below.refl _ _⟩
  case round =>
    obtain ⟨k, r, hk, rfl, rfl, hr, hst, hB⟩ := hrel
    by_cases hlt : ¬ k < ls.length
    · have hge : k = ls.length := by omega
      go_wp2
      go_ret2
      rw [hge, List.take_length] at hst
      rw [hst]
      exact ⟨rfl, hBel1.out.andThen hB⟩
    have hlt : k < ls.length := by omega
    obtain ⟨l, hl⟩ : ∃ x, ls[k] = x := ⟨_, rfl⟩
    have Hl2 := Lib.hid (show ls[k]? = some l by rw [← hl]; simp [hlt])
    clear hl
    rcases HL1.out with h0 | ⟨g, rfl, hat⟩
    · omega
    obtain ⟨d0, d1, d2⟩ := hat k l Hl2.out
    have e0 := cell_kept d0 hB
    have e1 := cell_kept d1 hB
    have e2 := cell_kept d2 hB
    have c0 := cell_kept b0.out hB
    have c1 := cell_kept b1.out hB
    have c2 := cell_kept b2.out hB
    have hszw : w.heap.size < wr.heap.size := World.block_lt_of_cell? wr ⟨w.heap.size, 0, none⟩ c0
    have hszg : g < wr.heap.size := World.block_lt_of_cell? wr ⟨g, _, none⟩ e0
    have HST := Lib.hid hst
    have HB := Lib.hid hB
    clear hst hat d0 d1 d2 hB
    obtain ⟨la, lb, lc⟩ := l
    dsimp only at e0 e1 e2
    obtain ⟨o, ho⟩ : ∃ o, jump1 a h s r ⟨la, lb, lc⟩ = o := ⟨_, rfl⟩
    have HO := Lib.hid ho
    clear ho
    cases o with
    | none =>
      go_wp2_with fail
      refine (DoJump_ln a h s r la lb lc hr HO.out _).mono ?_
      rintro e w2 ⟨rfl, hB2⟩
      have hbb := Lib.hid (hBel1.out.andThen (HB.out.andThen ((below1 _ _).andThen hB2)))
      go_wp2
      go_ret2
      exact ⟨by rw [stepsO_stop HST.out Hl2.out HO.out]; rfl, hbb.out⟩
    | some r2 =>
      have hr2 := jump1_bounds HO.out
      go_wp2_with fail
      refine (DoJump_ls a h s r la lb lc r2 hr HO.out _).mono ?_
      rintro e w2 ⟨rfl, hB2⟩
      have hbb := Lib.hid (HB.out.andThen ((below1 _ _).andThen hB2))
      go_wp2
      go_roundw
      case rel => exact ⟨k + 1, r2, by omega, by go_num, rfl, by omega, stepsO_next HST.out Hl2.out HO.out, hbb.out⟩
      case measure => simp [intOf]; try omega

set_option maxHeartbeats 800000 in
set_option maxRecDepth 100000 in
theorem specPlayAll_any (a h s q : Int) (hq : q < 2 ^ 63) (p : Option Addr) (cap : Nat) (ls : List Ln) (hls : ls.length ≤ 1048576) (w : World) (hl : LinesAt w p ls) :
    Calls Try.prog 45 #[.agg #[.int .i64 a, .int .i64 h, .int .i64 s], .int .i64 q, .slice p ls.length cap] w (RetR w (playR a h s q ls) q) := by
  obtain ⟨R, hR⟩ : ∃ R, playR a h s q ls = R := ⟨_, rfl⟩
  have HR := Lib.hid hR
  rw [hR]
  clear hR
  go_enter Try.func45, Try.ntmps45
  have X0 := BoxAt.new w a h s 26
  have HL0 := hl.kept (below1 w (.cells #[.int .i64 a, .int .i64 h, .int .i64 s] 26))
  have hBel0 := below1 w (.cells #[.int .i64 a, .int .i64 h, .int .i64 s] 26)
  obtain ⟨b0, b1, b2, bz⟩ := X0
  clear bz hl
  obtain ⟨wb, hwb⟩ : ∃ wb, wb = w.alloc (.cells #[.int .i64 a, .int .i64 h, .int .i64 s] 26) := ⟨_, rfl⟩
  rw [← hwb] at hBel0 HL0 b0 b1 b2
  have hBel1 := Lib.hid hBel0
  have HL1 := Lib.hid HL0
  have hwb := Lib.hid hwb
  replace b0 := Lib.hid b0
  replace b1 := Lib.hid b1
  replace b2 := Lib.hid b2
  clear hBel0 HL0
  go_wp2_with fail
  go_loopw [8, 9] (fun now j wr => ∃ (k : Nat) (r : Int), k ≤ ls.length ∧ j = .int .i64 k ∧ now = .int .i64 r ∧ r < 2 ^ 63 ∧ stepsO (jump1 a h s) q (ls.take k) = some r ∧ (0 < k → ls.length ≤ 60) ∧ Below wb.heap.size wb wr) (fun _ j _ => ls.length - (intOf j).toNat)
  case atStart => exact ⟨0, q, by omega, rfl, rfl, hq, rfl, by omega, by rw [hwb.out]; exact Below.refl _ _⟩
  case round =>
    obtain ⟨k, r, hk, rfl, rfl, hr, hst, h60, hB⟩ := hrel
    by_cases hlt : ¬ k < ls.length
    · have hge : k = ls.length := by omega
      rw [hge, List.take_length] at hst
      have h2 : ls.length ≤ 60 := by
        by_cases h0 : 0 < k
        · exact h60 h0
        · omega
      have c0 := cell_kept b0.out hB
      have c1 := cell_kept b1.out hB
      have c2 := cell_kept b2.out hB
      have HST := Lib.hid hst
      clear hst
      cases h1 : pOk a h s q
      all_goals
        go_wp2_with fail
        refine (specPositionOk_b _ _ _ _ _ hq h1 _).mono ?_
        rintro e w2 ⟨rfl, hB2⟩
        have hbb := Lib.hid (hBel1.out.andThen (hB.andThen hB2))
        have HR2 := HR.out
        first | rw [playR_no1 h1] at HR2 | rw [playR_yes h1 h2, HST.out] at HR2
        clear hB hB2
        go_wp2
        go_ret2
        subst HR2
        exact ⟨rfl, hbb.out⟩
    have hlt : k < ls.length := by omega
    obtain ⟨l, hl⟩ : ∃ x, ls[k] = x := ⟨_, rfl⟩
    have Hl2 := Lib.hid (show ls[k]? = some l by rw [← hl]; simp [hlt])
    have Hl3 := Hl2
    have hI0 : (0 : Int) ≤ (k : Int) := by omega
    have hI1 : (k : Int) < (ls.length : Int) := by omega
    clear hl
    rcases HL1.out with h0 | ⟨g, rfl, hat⟩
    · omega
    obtain ⟨d0, d1, d2⟩ := hat k l Hl2.out
    have e0 := cell_kept d0 hB
    have e1 := cell_kept d1 hB
    have e2 := cell_kept d2 hB
    have c0 := cell_kept b0.out hB
    have c1 := cell_kept b1.out hB
    have c2 := cell_kept b2.out hB
    have hszw : w.heap.size < wr.heap.size := World.block_lt_of_cell? wr ⟨w.heap.size, 0, none⟩ c0
    have hszg : g < wr.heap.size := World.block_lt_of_cell? wr ⟨g, _, none⟩ e0
    have HST := Lib.hid hst
    have HB := Lib.hid hB
    clear hst hat d0 d1 d2 hB
    obtain ⟨la, lb, lc⟩ := l
    dsimp only at e0 e1 e2
    obtain ⟨o, ho⟩ : ∃ o, jump1 a h s r ⟨la, lb, lc⟩ = o := ⟨_, rfl⟩
    have HO := Lib.hid ho
    clear ho
    cases o with
    | none =>
      go_wp2_with fail
      go_region_held3 (fun w' : World => w'.cell? ⟨w.heap.size, 0, none⟩ = some (.int .i64 a) ∧ w'.cell? ⟨w.heap.size, 1, none⟩ = some (.int .i64 h) ∧ w'.cell? ⟨w.heap.size, 2, none⟩ = some (.int .i64 s) ∧ w'.cell? ⟨g, k * 3, none⟩ = some (.int .i64 la) ∧ w'.cell? ⟨g, k * 3 + 1, none⟩ = some (.int .i64 lb) ∧ w'.cell? ⟨g, k * 3 + 2, none⟩ = some (.int .i64 lc) ∧ Below wb.heap.size wb w')
        (first | assumption | exact ⟨c0, c1, c2, e0, e1, e2, HB.out.drew⟩ | exact heldG (by assumption) hB1)
        (first | (go_at_call 80; refine (specDoJump_ln a h s r la lb lc hr HO.out _).mono ?_; rintro e w1 ⟨rfl, hB1⟩))
      clear c0 c1 c2 e0 e1 e2
      rename_i hX
      obtain ⟨_, _, _, _, _, _, hbx⟩ := hX
      have hbb := Lib.hid (hBel1.out.andThen hbx)
      clear hbx
      go_wp2
      go_ret2
      have HR2 := HR.out
      rw [playR_stop HST.out Hl3.out HO.out] at HR2
      subst HR2
      exact ⟨rfl, hbb.out⟩
    | some r2 =>
      have hr2 := jump1_bounds HO.out
      go_wp2_with fail
      go_region_held3 (fun w' : World => w'.cell? ⟨w.heap.size, 0, none⟩ = some (.int .i64 a) ∧ w'.cell? ⟨w.heap.size, 1, none⟩ = some (.int .i64 h) ∧ w'.cell? ⟨w.heap.size, 2, none⟩ = some (.int .i64 s) ∧ w'.cell? ⟨g, k * 3, none⟩ = some (.int .i64 la) ∧ w'.cell? ⟨g, k * 3 + 1, none⟩ = some (.int .i64 lb) ∧ w'.cell? ⟨g, k * 3 + 2, none⟩ = some (.int .i64 lc) ∧ Below wb.heap.size wb w')
        (first | assumption | exact ⟨c0, c1, c2, e0, e1, e2, HB.out.drew⟩ | exact heldG (by assumption) hB1)
        (first | (go_at_call 80; refine (specDoJump_ls a h s r la lb lc r2 hr HO.out _).mono ?_; rintro e w1 ⟨rfl, hB1⟩))
      clear c0 c1 c2 e0 e1 e2 HB
      rename_i hX
      obtain ⟨_, _, _, _, _, _, hbx⟩ := hX
      have hbb := Lib.hid hbx
      clear hbx
      by_cases h2 : ls.length ≤ 60
      · have h3 : ¬ (60 : Int) < (ls.length : Int) := by omega
        go_wp2
        go_roundw
        case rel => exact ⟨k + 1, r2, by omega, by go_num, rfl, by omega, stepsO_next HST.out Hl3.out HO.out, fun _ => h2, hbb.out⟩
        case measure => simp [intOf]; try omega
      · have h3 : (60 : Int) < (ls.length : Int) := by omega
        go_wp2
        go_ret2
        have HR2 := HR.out
        rw [playR_no2 h2] at HR2
        subst HR2
        exact ⟨rfl, hBel1.out.andThen hbb.out⟩

set_option maxHeartbeats 800000 in
set_option maxRecDepth 100000 in
theorem UndoAll_3 (a h s q : Int) (hq : q < 2 ^ 63) (p : Option Addr) (cap : Nat) (ls : List Ln) (h1 : pOk a h s q = true) (h2 : ls.length ≤ 60) (hls : ls.length ≤ 1048576) (w : World) (hl : LinesAt w p ls) :
    Calls Try.prog 53 #[.agg #[.int .i64 a, .int .i64 h, .int .i64 s], .int .i64 q, .slice p ls.length cap] w (RetR w (stepsO (undo1 a h s) q ls.reverse) q) := by
  have h3 : ¬ (60 : Int) < (ls.length : Int) := by omega
  go_enter Try.func53, Try.ntmps53
  have X0 := BoxAt.new w a h s 26
  have HL0 := hl.kept (below1 w (.cells #[.int .i64 a, .int .i64 h, .int .i64 s] 26))
  have hBel0 := below1 w (.cells #[.int .i64 a, .int .i64 h, .int .i64 s] 26)
  obtain ⟨b0, b1, b2, bz⟩ := X0
  clear bz hl
  go_wp2_with fail
  refine (PositionOk_b true _ _ _ _ hq h1 _).mono ?_
  rintro e w1 ⟨rfl, hB1⟩
  replace b0 := Lib.hid (cell_kept b0 hB1)
  replace b1 := Lib.hid (cell_kept b1 hB1)
  replace b2 := Lib.hid (cell_kept b2 hB1)
  have HL1 := Lib.hid (HL0.kept hB1)
  have hBel1 := Lib.hid (hBel0.andThen hB1)
  clear HL0 hBel0 hB1
  go_wp2_with fail
  go_loopw [8, 9] (fun now j wr => ∃ (k : Nat) (i r : Int), i + k + 1 = ls.length ∧ k ≤ ls.length ∧ j = .int .i64 i ∧ now = .int .i64 r ∧ r < 2 ^ 63 ∧ stepsO (undo1 a h s) q (ls.reverse.take k) = some r ∧ Below w1.heap.size w1 wr) (fun _ j _ => (intOf j + 1).toNat)
  case atStart => exact ⟨0, (ls.length : Int) - 1, q, by omega, by omega, by go_num, rfl, hq, rfl, Below.refl _ _⟩
  case round =>
    obtain ⟨k, i, r, hik, hk, rfl, rfl, hr, hst, hB⟩ := hrel
    by_cases hlt : ¬ k < ls.length
    · have hge : k = ls.length := by omega
      rw [hge, show ls.length = ls.reverse.length from by simp, List.take_length] at hst
      have hneg : ¬ (0 : Int) ≤ i := by omega
      go_wp2
      go_ret2
      (try rw [hst])
      exact ⟨rfl, hBel1.out.andThen hB⟩
    have hlt : k < ls.length := by omega
    obtain ⟨n, rfl⟩ := Int.eq_ofNat_of_zero_le (show 0 ≤ i by omega)
    obtain ⟨l, hl⟩ : ∃ x, ls[n]'(by omega) = x := ⟨_, rfl⟩
    have Hl2 := Lib.hid (show ls[n]? = some l by rw [← hl]; simp)
    have Hl3 := Lib.hid (show ls.reverse[k]? = some l by rw [List.getElem?_reverse hlt, show ls.length - 1 - k = n from by omega]; exact Hl2.out)
    have hI0 : (0 : Int) ≤ (n : Int) := by omega
    have hI1 : (n : Int) < (ls.length : Int) := by omega
    clear hl
    rcases HL1.out with h0 | ⟨g, rfl, hat⟩
    · omega
    obtain ⟨d0, d1, d2⟩ := hat n l Hl2.out
    have e0 := cell_kept d0 hB
    have e1 := cell_kept d1 hB
    have e2 := cell_kept d2 hB
    have c0 := cell_kept b0.out hB
    have c1 := cell_kept b1.out hB
    have c2 := cell_kept b2.out hB
    have hszw : w.heap.size < wr.heap.size := World.block_lt_of_cell? wr ⟨w.heap.size, 0, none⟩ c0
    have hszg : g < wr.heap.size := World.block_lt_of_cell? wr ⟨g, _, none⟩ e0
    have HST := Lib.hid hst
    have HB := Lib.hid hB
    clear hst hat d0 d1 d2 hB
    obtain ⟨la, lb, lc⟩ := l
    dsimp only at e0 e1 e2
    obtain ⟨o, ho⟩ : ∃ o, undo1 a h s r ⟨la, lb, lc⟩ = o := ⟨_, rfl⟩
    have HO := Lib.hid ho
    clear ho
    cases o with
    | none =>
      go_wp2_with fail
      go_region_held3 (fun w' : World => w'.cell? ⟨w.heap.size, 0, none⟩ = some (.int .i64 a) ∧ w'.cell? ⟨w.heap.size, 1, none⟩ = some (.int .i64 h) ∧ w'.cell? ⟨w.heap.size, 2, none⟩ = some (.int .i64 s) ∧ w'.cell? ⟨g, n * 3, none⟩ = some (.int .i64 la) ∧ w'.cell? ⟨g, n * 3 + 1, none⟩ = some (.int .i64 lb) ∧ w'.cell? ⟨g, n * 3 + 2, none⟩ = some (.int .i64 lc) ∧ Below w1.heap.size w1 w')
        (first | assumption | exact ⟨c0, c1, c2, e0, e1, e2, HB.out.drew⟩ | exact heldG (by assumption) hB1)
        (first | (go_at_call 38; refine (UndoJump_ln a h s r la lb lc hr HO.out _).mono ?_; rintro e w1 ⟨rfl, hB1⟩))
      clear c0 c1 c2 e0 e1 e2
      rename_i hX
      obtain ⟨_, _, _, _, _, _, hbx⟩ := hX
      have hbb := Lib.hid (hBel1.out.andThen hbx)
      clear hbx
      go_wp2
      go_ret2
      exact ⟨by rw [stepsO_stop HST.out Hl3.out HO.out]; rfl, hbb.out⟩
    | some r2 =>
      have hr2 := undo1_bounds HO.out
      go_wp2_with fail
      go_region_held3 (fun w' : World => w'.cell? ⟨w.heap.size, 0, none⟩ = some (.int .i64 a) ∧ w'.cell? ⟨w.heap.size, 1, none⟩ = some (.int .i64 h) ∧ w'.cell? ⟨w.heap.size, 2, none⟩ = some (.int .i64 s) ∧ w'.cell? ⟨g, n * 3, none⟩ = some (.int .i64 la) ∧ w'.cell? ⟨g, n * 3 + 1, none⟩ = some (.int .i64 lb) ∧ w'.cell? ⟨g, n * 3 + 2, none⟩ = some (.int .i64 lc) ∧ Below w1.heap.size w1 w')
        (first | assumption | exact ⟨c0, c1, c2, e0, e1, e2, HB.out.drew⟩ | exact heldG (by assumption) hB1)
        (first | (go_at_call 38; refine (UndoJump_ls a h s r la lb lc r2 hr HO.out _).mono ?_; rintro e w1 ⟨rfl, hB1⟩))
      clear c0 c1 c2 e0 e1 e2 HB
      rename_i hX
      obtain ⟨_, _, _, _, _, _, hbx⟩ := hX
      have hbb := Lib.hid hbx
      clear hbx
      go_wp2
      go_roundw
      case rel => exact ⟨k + 1, (n : Int) - 1, r2, by omega, by omega, by go_num, rfl, by omega, stepsO_next HST.out Hl3.out HO.out, hbb.out⟩
      case measure => simp [intOf]; try omega

theorem PlayAll_any (a h s q : Int) (hq : q < 2 ^ 63) (p : Option Addr) (cap : Nat) (ls : List Ln) (hls : ls.length ≤ 1048576) (w : World) (hl : LinesAt w p ls) :
    Calls Try.prog 52 #[.agg #[.int .i64 a, .int .i64 h, .int .i64 s], .int .i64 q, .slice p ls.length cap] w (RetR w (playR a h s q ls) q) := by
  cases h1 : pOk a h s q
  · rw [playR_no1 h1]; exact PlayAll_1 a h s q hq p cap ls h1 w
  · by_cases h2 : ls.length ≤ 60
    · rw [playR_yes h1 h2]; exact PlayAll_3 a h s q hq p cap ls h1 h2 w hl
    · rw [playR_no2 h2]; exact PlayAll_2 a h s q hq p cap ls h1 h2 w

theorem UndoAll_any (a h s q : Int) (hq : q < 2 ^ 63) (p : Option Addr) (cap : Nat) (ls : List Ln) (hls : ls.length ≤ 1048576) (w : World) (hl : LinesAt w p ls) :
    Calls Try.prog 53 #[.agg #[.int .i64 a, .int .i64 h, .int .i64 s], .int .i64 q, .slice p ls.length cap] w (RetR w (undoR a h s q ls) q) := by
  cases h1 : pOk a h s q
  · rw [undoR_no1 h1]; exact UndoAll_1 a h s q hq p cap ls h1 w
  · by_cases h2 : ls.length ≤ 60
    · rw [undoR_yes h1 h2]; exact UndoAll_3 a h s q hq p cap ls h1 h2 hls w hl
    · rw [undoR_no2 h2]; exact UndoAll_2 a h s q hq p cap ls h1 h2 w

end Go.Proofs.Ytoipnooncnpndaa
