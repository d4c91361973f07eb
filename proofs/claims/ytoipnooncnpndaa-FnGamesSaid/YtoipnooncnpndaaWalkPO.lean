/-
  The walks of PositionsOf (impl and spec).
-/
import Derived.Test.YtoipnooncnpndaaWalkT
import Derived.Test.YtoipnooncnpndaaWalkI
import Derived.Test.YtoipnooncnpndaaAcc
namespace Go.Proofs.Ytoipnooncnpndaa
open Go.RowKit
open Peg
set_option linter.unusedVariables false

/-- The positions behind the first i jumps, i up to k. -/
def posF (a h s q : Int) (ls : List Ln) (i : Nat) : Int := (stepsO (jump1 a h s) q (ls.take i)).getD 0
def posT (a h s q : Int) (ls : List Ln) (k : Nat) : List Int := (List.range (k + 1)).map (posF a h s q ls)
theorem posT_len (a h s q : Int) (ls : List Ln) (k : Nat) : (posT a h s q ls k).length = k + 1 := by simp [posT]
theorem posT_zero (a h s q : Int) (ls : List Ln) : posT a h s q ls 0 = [q] := rfl
theorem posT_succ (a h s q : Int) (ls : List Ln) (k : Nat) : posT a h s q ls (k + 1) = posT a h s q ls k ++ [posF a h s q ls (k + 1)] := by
  unfold posT
  rw [List.range_succ (n := k + 1), List.map_append]; rfl
theorem posT_at (a h s q : Int) (ls : List Ln) (k : Nat) : (posT a h s q ls k)[k]?.getD 0 = posF a h s q ls k := by
  unfold posT
  rw [List.getElem?_map, List.getElem?_range (by omega)]; rfl
def posL (a h s q : Int) (ls : List Ln) : List Int := if (playR a h s q ls).isSome then posT a h s q ls ls.length else []
theorem posL_no {a h s q : Int} {ls : List Ln} (h1 : playR a h s q ls = none) : posL a h s q ls = [] := by unfold posL; rw [h1]; rfl
theorem posL_yes {a h s q x : Int} {ls : List Ln} (h1 : playR a h s q ls = some x) : posL a h s q ls = posT a h s q ls ls.length := by unfold posL; rw [h1]; rfl
theorem posL_len (a h s q : Int) (ls : List Ln) : (posL a h s q ls).length ≤ ls.length + 1 := by
  unfold posL
  split
  · rw [posT_len]; exact Nat.le_refl _
  · exact Nat.zero_le _
/-- In a game that can be played each jump can be played. -/
theorem play_step {a h s q x r : Int} {ls : List Ln} {k : Nat} {l : Ln} (h1 : playR a h s q ls = some x) (hst : stepsO (jump1 a h s) q (ls.take k) = some r) (hl : ls[k]? = some l) : ∃ r2, jump1 a h s r l = some r2 := by
  cases hj : jump1 a h s r l with
  | none => rw [playR_stop hst hl hj] at h1; cases h1
  | some r2 => exact ⟨r2, rfl⟩
theorem row_one (w : World) (B : Nat) (hb : B ≤ w.heap.size) (x : Int) (n : Nat) (hn : n = w.heap.size) : RowI (w.alloc (.cells #[.int .i64 x] 3)) B (.slice (some ⟨n, 0, none⟩) 1 1) [x] := by
  subst hn
  exact ⟨by simp, .inr ⟨w.heap.size, 1, #[.int .i64 x], rfl, hb, heap_alloc_new w _, by simp, by decide, rfl, by simp⟩⟩
theorem held7 {w' w1 ws : World} {n b0 B : Nat} {ad1 : Nat} {i0 i1 i2 : Nat} {x y z u0 u1 u2 v : Value} {zs : List Int}
    (h : w'.cell? ⟨n, 0, none⟩ = some x ∧ w'.cell? ⟨n, 1, none⟩ = some y ∧ w'.cell? ⟨n, 2, none⟩ = some z ∧ w'.cell? ⟨ad1, i0, none⟩ = some u0 ∧ w'.cell? ⟨ad1, i1, none⟩ = some u1 ∧ w'.cell? ⟨ad1, i2, none⟩ = some u2 ∧ RowI w' B v zs ∧ Acc ws b0 v w') (hb : Below w'.heap.size w' w1) :
    w1.cell? ⟨n, 0, none⟩ = some x ∧ w1.cell? ⟨n, 1, none⟩ = some y ∧ w1.cell? ⟨n, 2, none⟩ = some z ∧ w1.cell? ⟨ad1, i0, none⟩ = some u0 ∧ w1.cell? ⟨ad1, i1, none⟩ = some u1 ∧ w1.cell? ⟨ad1, i2, none⟩ = some u2 ∧ RowI w1 B v zs ∧ Acc ws b0 v w1 := by
  obtain ⟨h0, h1, h2, h3, h4, h5, h6, h7⟩ := h
  exact ⟨cell_kept h0 hb, cell_kept h1 hb, cell_kept h2 hb, cell_kept h3 hb, cell_kept h4 hb, cell_kept h5 hb, h6.kept hb, h7.below hb⟩
theorem held8 {w' w1 ws : World} {n b0 B : Nat} {ad1 ad2 : Nat} {i0 i1 i2 i3 : Nat} {x y z u0 u1 u2 u3 v : Value} {zs : List Int}
    (h : w'.cell? ⟨n, 0, none⟩ = some x ∧ w'.cell? ⟨n, 1, none⟩ = some y ∧ w'.cell? ⟨n, 2, none⟩ = some z ∧ w'.cell? ⟨ad1, i0, none⟩ = some u0 ∧ w'.cell? ⟨ad1, i1, none⟩ = some u1 ∧ w'.cell? ⟨ad1, i2, none⟩ = some u2 ∧ w'.cell? ⟨ad2, i3, none⟩ = some u3 ∧ RowI w' B v zs ∧ Acc ws b0 v w') (hb : Below w'.heap.size w' w1) :
    w1.cell? ⟨n, 0, none⟩ = some x ∧ w1.cell? ⟨n, 1, none⟩ = some y ∧ w1.cell? ⟨n, 2, none⟩ = some z ∧ w1.cell? ⟨ad1, i0, none⟩ = some u0 ∧ w1.cell? ⟨ad1, i1, none⟩ = some u1 ∧ w1.cell? ⟨ad1, i2, none⟩ = some u2 ∧ w1.cell? ⟨ad2, i3, none⟩ = some u3 ∧ RowI w1 B v zs ∧ Acc ws b0 v w1 := by
  obtain ⟨h0, h1, h2, h3, h4, h5, h8, h6, h7⟩ := h
  exact ⟨cell_kept h0 hb, cell_kept h1 hb, cell_kept h2 hb, cell_kept h3 hb, cell_kept h4 hb, cell_kept h5 hb, cell_kept h8 hb, h6.kept hb, h7.below hb⟩
theorem LinesAt.grown {w w' : World} {b0 : Nat} {p : Option Addr} {ls : List Ln} (h : LinesAt w p ls) (hg : w.grownBy w' (some b0)) (hlt : ∀ g, p = some ⟨g, 0, none⟩ → g ≠ b0) : LinesAt w' p ls := by
  rcases h with h | ⟨g, hp, h⟩
  · exact .inl h
  · exact .inr ⟨g, hp, fun k l hl => by
      obtain ⟨h0, h1, h2⟩ := h k l hl
      have := hlt g hp
      exact ⟨hg.cell h0 (by simpa using this), hg.cell h1 (by simpa using this), hg.cell h2 (by simpa using this)⟩⟩
/-- The lines stand in an old block. -/
theorem LinesAt.old {w : World} {p : Option Addr} {ls : List Ln} {k g : Nat} (h : ∀ k l, ls[k]? = some l → w.cell? ⟨g, k * 3, none⟩ = some (.int .i64 l.a) ∧ w.cell? ⟨g, k * 3 + 1, none⟩ = some (.int .i64 l.b) ∧ w.cell? ⟨g, k * 3 + 2, none⟩ = some (.int .i64 l.c)) (hk : k < ls.length) : g < w.heap.size := by
  obtain ⟨h0, _⟩ := h k ls[k] (by simp [hk])
  exact World.block_lt_of_cell? w ⟨g, _, none⟩ h0

theorem PositionsOf_no (a h s q : Int) (hq : q < 2 ^ 63) (p : Option Addr) (cap : Nat) (ls : List Ln) (hls : ls.length ≤ 1048576) (h1 : playR a h s q ls = none) (w : World) (hl : LinesAt w p ls) :
    Calls Try.prog 54 #[.agg #[.int .i64 a, .int .i64 h, .int .i64 s], .int .i64 q, .slice p ls.length cap] w (RetI w []) := by
  have H1 := Lib.hid h1
  clear h1
  go_enter Try.func54, Try.ntmps54
  go_wp2_with fail
  refine (RetR.no (PlayAll_any a h s q hq p cap ls hls _ (hl.kept (below1 _ _))) H1.out).mono ?_
  rintro e w1 ⟨rfl, hB1⟩
  have hbb := Lib.hid ((below1 _ _).andThen hB1)
  clear hB1
  go_wp2
  go_ret
  exact ⟨_, rfl, ⟨rfl, .inl ⟨rfl, rfl⟩⟩, hbb.out⟩

set_option maxHeartbeats 1600000 in
set_option maxRecDepth 100000 in
theorem PositionsOf_yes (a h s q x : Int) (hq : q < 2 ^ 63) (p : Option Addr) (cap : Nat) (ls : List Ln) (hls : ls.length ≤ 1048576) (h1 : playR a h s q ls = some x) (w : World) (hl : LinesAt w p ls) :
    Calls Try.prog 54 #[.agg #[.int .i64 a, .int .i64 h, .int .i64 s], .int .i64 q, .slice p ls.length cap] w (RetI w (posT a h s q ls ls.length)) := by
  obtain ⟨i0, hi, hz0, hz1, hz2⟩ := info_parts info_int
  have H1 := Lib.hid h1
  clear h1
  go_enter Try.func54, Try.ntmps54
  have X0 := BoxAt.new w a h s 26
  obtain ⟨b0, b1, b2, bz⟩ := X0
  clear bz
  go_wp2_with fail
  refine (RetR.yes (PlayAll_any a h s q hq p cap ls hls _ (hl.kept (below1 _ _))) H1.out).mono ?_
  rintro e w1 ⟨rfl, hB1⟩
  have HL1 := LinesAt.kept (hl.kept (below1 _ _)) hB1
  replace b0 := cell_kept (cell_kept b0 hB1) (below1 _ (.cells #[.int .i64 q] 3))
  replace b1 := cell_kept (cell_kept b1 hB1) (below1 _ (.cells #[.int .i64 q] 3))
  replace b2 := cell_kept (cell_kept b2 hB1) (below1 _ (.cells #[.int .i64 q] 3))
  have hBel := Lib.hid (((below1 w (.cells #[.int .i64 a, .int .i64 h, .int .i64 s] 26)).andThen hB1).more (.cells #[.int .i64 q] 3))
  have hsz1 := hB1.size
  simp at hsz1
  have HL := Lib.hid HL1
  have R0 := row_one w1 w1.heap.size (Nat.le_refl _) q w1.heap.size rfl
  obtain ⟨L, hL⟩ : ∃ L, w1.heap.size = L := ⟨_, rfl⟩
  have hL2 := Lib.hid hL
  rw [hL] at R0 hsz1
  obtain ⟨ws, hws⟩ : ∃ ws, ws = w1.alloc (.cells #[.int .i64 q] 3) := ⟨_, rfl⟩
  rw [← hws] at b0 b1 b2 R0 hBel
  have Hws := Lib.hid hws
  have hszs : ws.heap.size = L + 1 := by rw [hws]; simp [hL]
  clear hB1 HL1 hl
  go_wp2_with fail
  (try rw [hL])
  clear hL hws
  go_loopw [9, 27] (fun v j wr => ∃ k : Nat, k ≤ ls.length ∧ j = .int .i64 k ∧ RowI wr L v (posT a h s q ls k) ∧ Acc ws L v wr ∧ ∃ r : Int, stepsO (jump1 a h s) q (ls.take k) = some r ∧ r < 2 ^ 63) (fun _ j _ => ls.length - (intOf j).toNat)
  case atStart => exact ⟨0, by omega, rfl, (by rw [← Hws.out]; exact R0), by rw [← Hws.out]; exact Acc.start _ _ _ (fun k hk => by simp [Value.ownBlock] at hk; omega), q, rfl, hq⟩
  case round =>
    obtain ⟨k, hk, rfl, hrow, hacc, r, hst, hr⟩ := hrel
    by_cases hlt : ¬ k < ls.length
    · have hge : k = ls.length := by omega
      rw [hge] at hrow
      go_wp2
      go_ret
      exact ⟨_, rfl, hrow.le (by omega), hacc.ret hBel.out (by omega)⟩
    have hlt : k < ls.length := by omega
    rcases HL.out with h0 | ⟨g, rfl, hat⟩
    · omega
    have hgL : g < L := by have := LinesAt.old (p := none) hat hlt; have := hL2.out; omega
    obtain ⟨l, hl⟩ : ∃ x, ls[k] = x := ⟨_, rfl⟩
    have Hl := Lib.hid (show ls[k]? = some l by rw [← hl]; simp [hlt])
    clear hl
    obtain ⟨d0, d1, d2⟩ := hat k l Hl.out
    obtain ⟨r2, hj⟩ := play_step H1.out hst Hl.out
    have hr2 := jump1_bounds hj
    have HJ := Lib.hid hj
    have HST2 := Lib.hid (stepsO_next hst Hl.out hj)
    have hpos : posF a h s q ls (k + 1) = (r2 : Int) := by unfold posF; rw [HST2.out]; rfl
    have hposk : posF a h s q ls k = r := by unfold posF; rw [hst]; rfl
    have Hposk := Lib.hid hposk
    have Hpos := Lib.hid hpos
    clear hst hj hpos hposk hat
    have e0 := hacc.gr.cell (cell_kept d0 (by rw [Hws.out]; exact below1 _ _)) (by simp; omega)
    have e1 := hacc.gr.cell (cell_kept d1 (by rw [Hws.out]; exact below1 _ _)) (by simp; omega)
    have e2 := hacc.gr.cell (cell_kept d2 (by rw [Hws.out]; exact below1 _ _)) (by simp; omega)
    have c0 := hacc.gr.cell b0 (by simp; omega)
    have c1 := hacc.gr.cell b1 (by simp; omega)
    have c2 := hacc.gr.cell b2 (by simp; omega)
    have hszg : g < wr.heap.size := World.block_lt_of_cell? wr ⟨g, _, none⟩ e0
    have hszw : w.heap.size < wr.heap.size := World.block_lt_of_cell? wr ⟨w.heap.size, 0, none⟩ c0
    obtain ⟨la, lb, lc⟩ := l
    dsimp only at e0 e1 e2 d0 d1 d2
    clear d0 d1 d2
    have hln := posT_len a h s q ls k
    have hI0 : (0 : Int) ≤ (k : Int) := by omega
    have hI1 : (k : Int) < (ls.length : Int) := by omega
    obtain ⟨zs, hzs⟩ : ∃ zs, posT a h s q ls k = zs := ⟨_, rfl⟩
    have hat2 := posT_at a h s q ls k
    rw [Hposk.out, hzs] at hat2
    rw [hzs] at hrow hln
    have Hzs := Lib.hid hzs
    clear hzs
    rcases hrow.forms with ⟨h0, _⟩ | ⟨_, gv, capv, rfl, hgv, hgvs, _⟩
    · rw [h0] at hln; simp at hln
    have f0 := RowI.at hrow k (by omega)
    rw [hat2] at f0
    have hLine := below1 wr (.cells #[.int .i64 la, .int .i64 lb, .int .i64 lc] 38)
    have Y0 := BoxAt.new wr la lb lc 38
    have hrowb := hrow.kept hLine
    have haccb := hacc.below hLine
    have c0b := cell_kept c0 hLine
    have c1b := cell_kept c1 hLine
    have c2b := cell_kept c2 hLine
    have f0b := cell_kept f0 hLine
    obtain ⟨y0, y1, y2, yz⟩ := Y0
    obtain ⟨zl, hzl⟩ : ∃ zl, zs.length = zl := ⟨_, rfl⟩
    rw [hzl]
    rw [hzl] at hrow hrowb hacc haccb
    have hkk : (k : Int) < (zl : Int) := by omega
    have hzb : zl ≤ 1048577 := by omega
    have Hzl := Lib.hid hzl
    clear hln
    go_wp2_with fail
    go_region_held3 (fun w' : World => w'.cell? ⟨w.heap.size, 0, none⟩ = some (.int .i64 a) ∧ w'.cell? ⟨w.heap.size, 1, none⟩ = some (.int .i64 h) ∧ w'.cell? ⟨w.heap.size, 2, none⟩ = some (.int .i64 s) ∧ w'.cell? ⟨wr.heap.size, 0, none⟩ = some (.int .i64 la) ∧ w'.cell? ⟨wr.heap.size, 1, none⟩ = some (.int .i64 lb) ∧ w'.cell? ⟨wr.heap.size, 2, none⟩ = some (.int .i64 lc) ∧ w'.cell? ⟨gv, k, none⟩ = some (.int .i64 r) ∧ RowI w' L (.slice (some ⟨gv, 0, none⟩) zl capv) zs ∧ Acc ws L (.slice (some ⟨gv, 0, none⟩) zl capv) w')
      (first | assumption | exact ⟨c0b, c1b, c2b, y0, y1, y2, f0b, hrowb, haccb.drew⟩ | exact held8 (by assumption) hB1)
      (first | (go_at_call 37; refine (DoJump_ls a h s r la lb lc r2 hr HJ.out _).mono ?_; rintro e w1 ⟨rfl, hB1⟩))
    clear c0 c1 c2 e0 e1 e2 hrow hacc c0b c1b c2b y0 y1 y2 f0 f0b hrowb haccb hLine
    rename_i hX
    obtain ⟨_, _, _, _, _, _, _, hrow1, hacc1⟩ := hX
    have hown := hrow1
    unfold RowI at hown
    rw [Hzl.out] at hown
    have hsz2 := hacc1.gr.size
    clear hrow1
    go_wp2_with (at_builtin; refine wpList_append_own_at _ rfl _ _ 49 rfl L 3 i0 (.int .i64 0) 1 8 Try.underlying49 hi hz0 hz1 hz2 rfl (by decide) _ _ _ rfl (hown.alloc _) ⟨w1.heap.size, 0, none⟩ 1 1 [.int .i64 (r2 : Nat)] rfl rfl ?c1 ?c2 ?c3 ?c4 ?c5 ?_)
    case c1 => exact cell_one_new _ _ _
    case c2 => simp [Value.oneCell']
    case c3 => unfold maxLen; omega
    case c4 => omega
    case c5 => simp; omega
    intro v' w3 hown' hgrow _ hat
    have R := Lib.hid (RowI.put (xs := zs) (x := (r2 : Int)) (by rw [Hzl.out]; exact hown'))
    have Ac := Lib.hid (hacc1.append hgrow hat)
    clear hown hown' hgrow hat hacc1
    go_wp2
    go_roundw
    case rel => exact ⟨k + 1, by omega, by go_num, by rw [posT_succ, Hzs.out, Hpos.out]; exact R.out, Ac.out, r2, HST2.out, by omega⟩
    case measure => simp [intOf]; omega

theorem PositionsOf_any (a h s q : Int) (hq : q < 2 ^ 63) (p : Option Addr) (cap : Nat) (ls : List Ln) (hls : ls.length ≤ 1048576) (w : World) (hl : LinesAt w p ls) :
    Calls Try.prog 54 #[.agg #[.int .i64 a, .int .i64 h, .int .i64 s], .int .i64 q, .slice p ls.length cap] w (RetI w (posL a h s q ls)) := by
  cases h1 : playR a h s q ls with
  | none => rw [posL_no h1]; exact PositionsOf_no a h s q hq p cap ls hls h1 w hl
  | some x => rw [posL_yes h1]; exact PositionsOf_yes a h s q x hq p cap ls hls h1 w hl
end Go.Proofs.Ytoipnooncnpndaa
