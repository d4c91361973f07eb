/-
  The walks of szLineS and toLineS: a slice of lines that is handed in is copied.
-/
import Derived.Test.YtmnnpfgmdojpmaaSlice
import Derived.Test.YtmnnpfgmdojpmaaWalkN
import Derived.Test.YtmnnpfgmdojpmaaAcc
import Derived.OwnWalk
namespace Go.Proofs.Ytmnnpfgmdojpmaa
open Go.RowKit
open Peg
set_option linter.unusedVariables false

theorem szLineS_any (a : Option Addr) (len cap : Nat) (L : Nat) (hL : L ≤ 1152921504606846976) (hlen : len ≤ maxLen) (w : World) :
    Calls Try.prog 13 #[.slice a len cap, .int .i64 L] w fun e w' => e = .returned (.int .i64 (if len ≤ L then ((L - len : Nat) : Int) else -1)) ∧ w' = w := by
  have hm : maxLen = 9223372036854775807 := rfl
  have hw : wrap64 ((L : Int) - (len : Int)) = (L : Int) - (len : Int) := by unfold wrap64; omega
  by_cases h : len ≤ L
  · rw [if_pos h]
    have h2 : ¬ (L : Int) - (len : Int) < 0 := by omega
    go_enter Try.func13, Try.ntmps13
    go_wp2
    go_ret
    exact ⟨by rw [show ((L - len : Nat) : Int) = (L : Int) - (len : Int) from by omega, ← hw]; rfl, rfl⟩
  · rw [if_neg h]
    have h2 : (L : Int) - (len : Int) < 0 := by omega
    go_enter Try.func13, Try.ntmps13
    go_wp2
    go_ret
    exact ⟨rfl, rfl⟩

/-- The copy, once its first k lines are laid. -/
def filled (ls : List Ln) (k : Nat) : List Int := flat (ls.take k) ++ List.replicate ((ls.length - k) * 3) 0
theorem filled_zero (ls : List Ln) : filled ls 0 = List.replicate (ls.length * 3) 0 := by simp [filled, flat]
theorem filled_all (ls : List Ln) : filled ls ls.length = flat ls := by simp [filled]
theorem filled_step {ls : List Ln} {k : Nat} {l : Ln} (h : ls[k]? = some l) :
    (((filled ls k).set (k * 3) l.a).set (k * 3 + 1) l.b).set (k * 3 + 2) l.c = filled ls (k + 1) := by
  have hk : k < ls.length := (List.getElem?_eq_some_iff.1 h).1
  have hlen : (flat (ls.take k)).length = k * 3 := by rw [flat_length, List.length_take]; congr 1; omega
  unfold filled
  rw [List.take_add_one, h, flat_append, show (ls.length - k) * 3 = (ls.length - (k + 1)) * 3 + 1 + 1 + 1 from by omega, List.replicate_succ, List.replicate_succ, List.replicate_succ]
  generalize flat (ls.take k) = F at hlen
  rw [List.set_append_right _ _ (by omega), List.set_append_right _ _ (by omega), List.set_append_right _ _ (by omega), hlen]
  simp [flat, show k * 3 + 1 - k * 3 = 1 from by omega, show k * 3 + 2 - k * 3 = 2 from by omega]
theorem made3 (n : Nat) : (madeCells #[.int .i64 0, .int .i64 0, .int .i64 0] (n * 3)).toList = (List.replicate (n * 3) 0).map (Value.int .i64) := by
  apply List.ext_getElem?
  intro i
  by_cases h : i < n * 3
  · have : i % 3 = 0 ∨ i % 3 = 1 ∨ i % 3 = 2 := by omega
    simp [madeCells, h]
    rcases this with e | e | e <;> simp [e]
  · simp [madeCells, h]

theorem add_field (ad : Addr) (n j : Nat) (hj : j ≠ 0) : ad.add (n + j) = ⟨(ad.add n).block, (ad.add n).off + j, none⟩ := by
  unfold Addr.add
  by_cases hn : n = 0
  · subst hn; simp [hj]
  · simp [hn, hj, Nat.add_assoc]
theorem addr_block (ad : Addr) (n : Nat) : (ad.add n).block = ad.block := by unfold Addr.add; split <;> rfl

set_option maxHeartbeats 800000 in
set_option maxRecDepth 100000 in
theorem toLineS_any (a : Option Addr) (len cap : Nat) (ls : List Ln) (w : World) (h : IsLines w a len ls) (hlen : len ≤ 1048576) :
    Calls Try.prog 15 #[.slice a len cap] w (RetL w ls) := by
  obtain ⟨i0, hi, hz0, hz1, hz2⟩ := info_parts info_line
  obtain ⟨rfl, _, hcells⟩ := h
  have HC := Lib.hid hcells
  clear hcells
  go_enter Try.func15, Try.ntmps15
  go_wp2_with (at_make; refine wpList_make_full _ rfl _ _ 25 rfl w.heap.size 49 i0 (.agg #[.int .i64 0, .int .i64 0, .int .i64 0]) 3 Try.underlying25 hi hz0 hz1 _ _ _ _ ls.length rfl rfl rfl rfl ?c1 ?c2 ?c3 ?_)
  case c1 => rw [hz2]; omega
  case c2 => unfold maxLen; omega
  case c3 => omega
  intro ws hown hgr
  rw [made3, ← filled_zero] at hown
  have R0 : RowX ws w.heap.size (.slice (some ⟨w.heap.size, 0, none⟩) ls.length ls.length) ls.length (filled ls 0) := hown
  have hg0 : w.grownBy ws (some w.heap.size) := ⟨hgr.os, hgr.tape, hgr.output, hgr.size, fun k hk _ => hgr.block k hk (by simp)⟩
  have hsz0 : w.heap.size < ws.heap.size := by
    have := R0.lt w.heap.size (by simp [Value.ownBlock])
    exact this.2
  clear hown hgr
  go_wp2_with fail
  go_loopw [4] (fun j wr => ∃ k : Nat, k ≤ ls.length ∧ j = .int .i64 k ∧ RowX wr w.heap.size (.slice (some ⟨w.heap.size, 0, none⟩) ls.length ls.length) ls.length (filled ls k) ∧ w.grownBy wr (some w.heap.size)) (fun j _ => ls.length - (intOf j).toNat)
  case atStart => exact ⟨0, by omega, rfl, R0, hg0⟩
  case round =>
    obtain ⟨k, hk, rfl, hrow, hgw⟩ := hrel
    by_cases hlt : k < ls.length
    · rcases HC.out with h0 | ⟨ad, rfl, hat⟩
      · omega
      · obtain ⟨l, hl⟩ : ∃ x, ls[k] = x := ⟨_, rfl⟩
        have hl2 : ls[k]? = some l := by rw [← hl]; simp [hlt]
        have hstep := filled_step hl2
        obtain ⟨d0, d1, d2⟩ := hat k l hl2
        obtain ⟨la, lb, lc⟩ := l
        dsimp only at d0 d1 d2 hstep
        have hne : ∀ n, some (ad.add n).block ≠ some w.heap.size := fun n e => by
          have := World.block_lt_of_cell? w _ d0
          rw [addr_block] at this e
          simp at e; omega
        have e0 := hgw.cell d0 (hne _)
        have e1 := hgw.cell d1 (hne _)
        have e2 := hgw.cell d2 (hne _)
        rw [add_field _ _ _ (by decide)] at e1 e2
        have HS := Lib.hid hstep
        have Hl := Lib.hid hl
        clear hstep hl hl2 d0 d1 d2 hat hne
        go_wp2_with fail
        refine (toLine_any _ _ _ _).mono ?_
        rintro e w1 ⟨rfl, hB1⟩
        have hrow1 := RowX.kept hrow hB1
        have f0 := RowX.free hrow1 (k * 3)
        have f1 := RowX.free hrow1 (k * 3 + 1)
        have f2 := RowX.free hrow1 (k * 3 + 2)
        have S1 := RowX.set hrow1 (k * 3) la
        have S2 := RowX.set S1.1 (k * 3 + 1) lb
        have S3 := RowX.set S2.1 (k * 3 + 2) lc
        rw [HS.out] at S3
        have hg3 := Lib.hid (grown_trans (grown_trans (grown_trans (grown_trans hgw (grown_any hB1 _)) S1.2) S2.2) S3.2)
        have hr3 := Lib.hid S3.1
        obtain ⟨u0, x0⟩ : ∃ u, w1.cell? ⟨w.heap.size, k * 3, none⟩ = some (.int .i64 u) := ⟨_, RowX.at hrow1 (k * 3) (by omega)⟩
        obtain ⟨u1, x1⟩ : ∃ u, w1.cell? ⟨w.heap.size, k * 3 + 1, none⟩ = some (.int .i64 u) := ⟨_, RowX.at hrow1 (k * 3 + 1) (by omega)⟩
        obtain ⟨u2, x2⟩ : ∃ u, w1.cell? ⟨w.heap.size, k * 3 + 2, none⟩ = some (.int .i64 u) := ⟨_, RowX.at hrow1 (k * 3 + 2) (by omega)⟩
        clear S1 S2 S3 hgw hrow hrow1 hB1 HS
        go_wp2
        go_roundw
        case rel => exact ⟨k + 1, by omega, by go_num, hr3.out, hg3.out⟩
        case measure => simp [intOf]; omega
    · have hk2 : k = ls.length := by omega
      go_wp2
      rw [hk2, filled_all] at hrow
      go_ret
      exact ⟨_, rfl, hrow, (Below.refl w.heap.size w).grown hgw (Nat.le_refl _) (fun j hj => by simp at hj; omega)⟩
end Go.Proofs.Ytmnnpfgmdojpmaa
