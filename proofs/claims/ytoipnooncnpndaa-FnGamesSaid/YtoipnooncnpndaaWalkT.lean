/-
  The walks of IsSolution, CountSweeps (impl and spec).
-/
import Derived.Test.YtoipnooncnpndaaWalkS
import Derived.Lib.SmallJoins
namespace Go.Proofs.Ytoipnooncnpndaa
open Go.RowKit
open Peg
set_option linter.unusedVariables false

def solB (o : Option Int) (g : Int) : Bool := match o with
  | none => false
  | some r => r == g
theorem RetR.no {P : Program} {f : FuncId} {args : Array Value} {w : World} {o : Option Int} {q : Int} (h : Calls P f args w (RetR w o q)) (ho : o = none) : Calls P f args w fun e w' => e = .returned (.tuple #[.int .i64 q, .bool false]) ∧ Below w.heap.size w w' := by
  subst ho; exact h
theorem RetR.yes {P : Program} {f : FuncId} {args : Array Value} {w : World} {o : Option Int} {q r : Int} (h : Calls P f args w (RetR w o q)) (ho : o = some r) : Calls P f args w fun e w' => e = .returned (.tuple #[.int .i64 r, .bool true]) ∧ Below w.heap.size w w' := by
  subst ho; exact h

set_option maxHeartbeats 400000 in
theorem IsSolution_b (b : Bool) (a h s q g : Int) (hq : q < 2 ^ 63) (p : Option Addr) (cap : Nat) (ls : List Ln) (hls : ls.length ≤ 1048576) (hb : solB (playR a h s q ls) g = b) (w : World) (hl : LinesAt w p ls) :
    Calls Try.prog 56 #[.agg #[.int .i64 a, .int .i64 h, .int .i64 s], .int .i64 q, .int .i64 g, .slice p ls.length cap] w fun e w' => e = .returned (.bool b) ∧ Below w.heap.size w w' := by
  obtain ⟨o, ho⟩ : ∃ o, playR a h s q ls = o := ⟨_, rfl⟩
  rw [ho] at hb
  have HO := Lib.hid ho
  clear ho
  cases o with
  | none =>
    have hb2 : false = b := hb
    subst hb2
    go_enter Try.func56, Try.ntmps56
    go_wp2_with fail
    refine (RetR.no (PlayAll_any a h s q hq p cap ls hls _ (hl.kept (below1 _ _))) HO.out).mono ?_
    rintro e w1 ⟨rfl, hB1⟩
    have hbb := Lib.hid ((below1 _ _).andThen hB1)
    clear hB1
    go_wp2
    go_ret
    exact ⟨rfl, hbb.out⟩
  | some r =>
    have hb2 : (r == g) = b := hb
    clear hb
    go_enter Try.func56, Try.ntmps56
    go_wp2_with fail
    refine (RetR.yes (PlayAll_any a h s q hq p cap ls hls _ (hl.kept (below1 _ _))) HO.out).mono ?_
    rintro e w1 ⟨rfl, hB1⟩
    have hbb := Lib.hid ((below1 _ _).andThen hB1)
    clear hB1
    go_wp2
    go_ret
    exact ⟨by first | rfl | (rw [← hb2]; rfl), hbb.out⟩

def swB (ls : List Ln) (k : Nat) : Bool := k == 0 || ((ls[k - 1]?.map Ln.c) != (ls[k]?.map Ln.a))
def swp (ls : List Ln) : Nat → Nat
  | 0 => 0
  | k + 1 => swp ls k + (if swB ls k then 1 else 0)
theorem swp_le (ls : List Ln) : ∀ k, swp ls k ≤ k
  | 0 => Nat.le_refl 0
  | k + 1 => by
    have := swp_le ls k
    unfold swp
    split <;> omega
theorem swp_in {ls : List Ln} {k : Nat} (h : swB ls k = true) : swp ls (k + 1) = swp ls k + 1 := by simp [swp, h]
theorem swp_out {ls : List Ln} {k : Nat} (h : swB ls k = false) : swp ls (k + 1) = swp ls k := by simp [swp, h]
theorem swB_zero (ls : List Ln) : swB ls 0 = true := rfl
theorem swB_succ {ls : List Ln} {m : Nat} {x y : Ln} (hx : ls[m]? = some x) (hy : ls[m + 1]? = some y) : swB ls (m + 1) = !(x.c == y.a) := by
  unfold swB
  rw [Nat.add_sub_cancel, hx, hy]
  simp only [Option.map_some]
  by_cases e : x.c = y.a
  · simp [e]
  · rw [show (x.c == y.a) = false from by simpa using e]
    simpa [bne] using e

set_option maxHeartbeats 800000 in
set_option maxRecDepth 100000 in
theorem CountSweeps_any (p : Option Addr) (cap : Nat) (ls : List Ln) (hls : ls.length ≤ 1048576) (w : World) (hl : LinesAt w p ls) :
    Calls Try.prog 55 #[.slice p ls.length cap] w fun e w' => e = .returned (.int .i64 (swp ls ls.length)) ∧ Below w.heap.size w w' := by
  have HL := Lib.hid hl
  clear hl
  go_enter Try.func55, Try.ntmps55
  go_wp2_with fail
  go_loopw [3, 8] (fun n j wr => ∃ k : Nat, k ≤ ls.length ∧ j = .int .i64 k ∧ n = .int .i64 (swp ls k : Nat) ∧ Below w.heap.size w wr) (fun _ j _ => ls.length - (intOf j).toNat)
  case atStart => exact ⟨0, by omega, rfl, rfl, Below.refl _ _⟩
  case round =>
    obtain ⟨k, hk, rfl, rfl, hB⟩ := hrel
    have hle := swp_le ls k
    by_cases hlt : ¬ k < ls.length
    · have hge : k = ls.length := by omega
      go_wp2
      go_ret
      exact ⟨by rw [hge]; rfl, hB⟩
    have hlt : k < ls.length := by omega
    have hI0 : (0 : Int) ≤ (k : Int) := by omega
    have hI1 : (k : Int) < (ls.length : Int) := by omega
    rcases HL.out with h0 | ⟨g, rfl, hat⟩
    · omega
    obtain ⟨y, hy⟩ : ∃ x, ls[k] = x := ⟨_, rfl⟩
    have hy2 : ls[k]? = some y := by rw [← hy]; simp
    obtain ⟨d0, d1, d2⟩ := hat k y hy2
    have e0 := cell_kept d0 hB
    have e1 := cell_kept d1 hB
    have e2 := cell_kept d2 hB
    have hszg : g < wr.heap.size := World.block_lt_of_cell? wr ⟨g, _, none⟩ e0
    have HY := Lib.hid hy2
    clear hy hy2 d0 d1 d2
    by_cases hk0 : k = 0
    · subst hk0
      have HS := Lib.hid (swp_in (swB_zero ls))
      clear hat
      go_wp2_with fail
      go_quiet (fail)
      go_wp2
      go_roundw
      case rel => exact ⟨1, by omega, by go_num, by rw [HS.out]; go_num, hB.andThen ((below1 _ _).andThen (Joins.below_draws _ _ _))⟩
      case measure => simp [intOf]; try omega
    · obtain ⟨m, rfl⟩ : ∃ m, k = m + 1 := ⟨k - 1, by omega⟩
      have hkm : ((m + 1 : Nat) : Int) - 1 = (m : Int) := by omega
      have hkm2 : (m : Int) + 1 - 1 = (m : Int) := by omega
      have hk0b : (((m + 1 : Nat) : Int) == 0) = false := by simp; omega
      have hk0c : ((m : Int) + 1 == 0) = false := by simp; omega
      have hI2 : (0 : Int) ≤ (m : Int) := by omega
      have hI3 : (m : Int) < (ls.length : Int) := by omega
      obtain ⟨x, hx⟩ : ∃ x, ls[m]'(by omega) = x := ⟨_, rfl⟩
      have hx2 : ls[m]? = some x := by rw [← hx]; simp
      obtain ⟨d0, d1, d2⟩ := hat m x hx2
      have e3 := cell_kept d2 hB
      have hsw := swB_succ hx2 HY.out
      clear hat hx hx2 d0 d1 d2
      obtain ⟨xa, xb, xc⟩ := x
      obtain ⟨ya, yb, yc⟩ := y
      dsimp only at e0 e1 e2 e3 hsw
      by_cases hxy : xc = ya
      · have q1 : (xc == ya) = true := by simpa using hxy
        have q2 : (ya == xc) = true := by simpa using hxy.symm
        have q3 : (xc != ya) = false := by simp [bne, q1]
        have q4 : (ya != xc) = false := by simp [bne, q2]
        rw [q1] at hsw
        have HS := Lib.hid (swp_out hsw)
        clear hsw
        go_wp2_with fail
        go_quiet (fail)
        go_wp2
        go_roundw
        case rel => exact ⟨m + 1 + 1, by omega, by go_num, by rw [HS.out], hB.andThen ((below1 _ _).andThen (Joins.below_draws _ _ _))⟩
        case measure => simp [intOf]; try omega
      · have q1 : (xc == ya) = false := by simpa using hxy
        have q2 : (ya == xc) = false := by simpa using fun h : ya = xc => hxy h.symm
        have q3 : (xc != ya) = true := by simp only [bne, q1]; rfl
        have q4 : (ya != xc) = true := by simp only [bne, q2]; rfl
        rw [q1] at hsw
        have HS := Lib.hid (swp_in hsw)
        clear hsw
        go_wp2_with fail
        go_quiet (fail)
        go_wp2
        go_roundw
        case rel => exact ⟨m + 1 + 1, by omega, by go_num, by rw [HS.out]; go_num, hB.andThen ((below1 _ _).andThen (Joins.below_draws _ _ _))⟩
        case measure => simp [intOf]; try omega

end Go.Proofs.Ytoipnooncnpndaa
