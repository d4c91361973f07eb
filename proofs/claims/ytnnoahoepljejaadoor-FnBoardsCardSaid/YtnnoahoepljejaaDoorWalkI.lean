/-
  The walks of the functions that make lists of holes.
-/
import Derived.Test.YtnnoahoepljejaaDoorOwn
import Derived.Test.YtnnoahoepljejaaDoorWalkA
namespace Go.Proofs.YtnnoahoepljejaaDoor
open Go.RowKit
open Peg
set_option linter.unusedVariables false

/-- The places of the first k bits of S that are set. -/
def bitsTo (S k : Nat) : List Int := ((List.range k).filter S.testBit).map (fun i : Nat => (i : Int))
theorem bitsTo_yes (S k : Nat) (h : S.testBit k = true) : bitsTo S (k + 1) = bitsTo S k ++ [(k : Int)] := by
  simp [bitsTo, List.range_succ, List.filter_append, h]
theorem bitsTo_no (S k : Nat) (h : S.testBit k = false) : bitsTo S (k + 1) = bitsTo S k := by
  simp [bitsTo, List.range_succ, List.filter_append, h]
theorem bitsTo_le (S k : Nat) : (bitsTo S k).length ≤ k := by
  unfold bitsTo; rw [List.length_map]
  exact Nat.le_trans (List.length_filter_le _ _) (by simp)

structure ListRel (w : World) (B : Nat) (S k : Nat) (v : Value) (wr : World) : Prop where
  row : RowI wr B v (bitsTo S k)
  bel : Below B w wr
  sz : B ≤ wr.heap.size

theorem ListRel.keep {w wr : World} {B S k : Nat} {v : Value} (h : ListRel w B S k v wr) (hb : S.testBit k = false) : ListRel w B S (k + 1) v wr :=
  { h with row := by rw [bitsTo_no S k hb]; exact h.row }

theorem rowNil (w : World) (B n : Nat) (hb : B ≤ w.heap.size) (hn : n = w.heap.size) : RowI (w.alloc (.cells #[] 3)) B (.slice (some ⟨n, 0, none⟩) 0 0) [] := by
  subst hn; exact World.ownsRow_made w #[] 0 hb (by decide) rfl
theorem ListRel.start (w : World) (S : Nat) : ListRel w w.heap.size S 0 (.slice (some ⟨w.heap.size, 0, none⟩) 0 0) (w.alloc (.cells #[] 3)) :=
  ⟨World.ownsRow_made w #[] 0 (Nat.le_refl _) (by decide) rfl, below1 _ _, by simp⟩

theorem ListRel.put {w wr w1 : World} {B S k : Nat} {v v' : Value} {o : Obj} (h : ListRel w B S k v wr) (hb : S.testBit k = true)
    (hown : w1.ownsRow B 3 1 v' ((bitsTo S k).length + 1) ((bitsTo S k).map (Value.int .i64) ++ [.int .i64 k])) (hg : (wr.alloc o).grownBy w1 v.ownBlock) : ListRel w B S (k + 1) v' w1 := by
  have hsz := h.sz
  refine ⟨?_, (h.bel.alloc h.sz o).grown hg (by simp; omega) (fun j hj => (h.row.lt j hj).1), ?_⟩
  · unfold RowI
    rw [bitsTo_yes S k hb]
    simpa using hown
  · have := hg.size; simp at this; omega

theorem ListRel.ret {w wr : World} {S n : Nat} {v : Value} (h : ListRel w w.heap.size S n v wr) : RetI w (bitsTo S n) (.returned v) wr := ⟨v, rfl, h.row, h.bel⟩

set_option maxHeartbeats 400000 in
set_option maxRecDepth 100000 in
theorem l02List_any (S : Nat) (hS : S < 2 ^ 63) (w : World) :
    Calls Tryd.prog 70 #[.int .i64 S] w (RetI w (bitsTo S 49)) := by
  obtain ⟨i0, hi, hz0, hz1, hz2⟩ := info_parts info_int
  go_enter Tryd.func70, Tryd.ntmps70
  go_wp2_with fail
  go_loopw [3, 4] (fun v i wr => ∃ k : Nat, k ≤ 49 ∧ i = .int .i64 k ∧ ListRel w w.heap.size S k v wr) (fun _ i _ => (49 - intOf i).toNat)
  case atStart => exact ⟨0, by omega, rfl, ListRel.start w S⟩
  case round =>
    obtain ⟨k, hk, rfl, hR⟩ := hrel
    by_cases hlt : k < 49
    · have hk62 : k ≤ 62 := by omega
      have ht := bit_test S k hS
      cases hb : S.testBit k
      · rw [hb] at ht
        have HB := Lib.hid hb
        clear hb
        go_wp2
        go_roundw
        case rel => exact ⟨k + 1, by omega, by go_num, hR.keep HB.out⟩
        case measure => simp [intOf]; omega
      · rw [hb] at ht
        have HB := Lib.hid hb
        clear hb
        have hown := hR.row
        unfold RowI at hown
        have hsz := hR.sz
        have hle := bitsTo_le S k
        go_wp2_with (at_builtin; refine wpList_append_own _ rfl _ _ 27 rfl w.heap.size 3 i0 (.int .i64 0) 1 8 Tryd.underlying27 hi hz0 hz1 hz2 rfl (by decide) _ _ _ rfl (hown.alloc _) ⟨wr.heap.size, 0, none⟩ 1 1 [.int .i64 k] rfl rfl ?c1 ?c2 ?c3 ?c4 ?c5 ?_)
        case c1 => exact cell_one_new _ _ _
        case c2 => simp [Value.oneCell']
        case c3 => unfold maxLen; omega
        case c4 => omega
        case c5 => simp; omega
        intro v' w1 hown' hgrow _
        clear hown
        go_wp2
        go_roundw
        case rel => exact ⟨k + 1, by omega, by go_num, hR.put HB.out hown' hgrow⟩
        case measure => simp [intOf]; omega
    · have hge : 49 ≤ k := by omega
      go_wp2
      obtain rfl : k = 49 := by omega
      go_ret
      exact hR.ret

theorem ListRel.more {w wr w1 : World} {B S k : Nat} {v : Value} (h : ListRel w B S k v wr) (hb : Below wr.heap.size wr w1) : ListRel w B S k v w1 :=
  ⟨h.row.kept hb, h.bel.trans (hb.mono h.sz), Nat.le_trans h.sz hb.size⟩

/-- The holes of a board, or none if it is not valid. -/
def holesL (a h s : Int) : List Int := if bOk a h s then bitsTo s.toNat (a * h).toNat else []
theorem holesL_ok {W H S : Nat} (ok : Ok W H S) : holesL W H S = bitsTo S (W * H) := by
  unfold holesL
  rw [bOk_of ok, if_pos rfl, (mul_bd ok).2.2, Int.toNat_natCast, Int.toNat_natCast]
theorem holesL_no {a h s : Int} (hb : bOk a h s = false) : holesL a h s = [] := by unfold holesL; rw [hb]; rfl
theorem bitsTo_all (S n : Nat) (h : S < 2 ^ n) : ∀ m, bitsTo S (n + m) = bitsTo S n
  | 0 => rfl
  | m + 1 => by
    rw [← Nat.add_assoc, bitsTo_no, bitsTo_all S n h m]
    exact Nat.testBit_lt_two_pow (Nat.lt_of_lt_of_le h (Nat.pow_le_pow_right (by decide) (by omega)))
theorem bits49 {W H S : Nat} (ok : Ok W H S) : bitsTo S 49 = bitsTo S (W * H) := by
  have := ok.area
  rw [show 49 = W * H + (49 - W * H) from by omega, bitsTo_all S _ ok.s2]

theorem RetI.of_below {w w1 w2 : World} {xs : List Int} {e : Ending} (hb : Below w.heap.size w w1) (h : RetI w1 xs e w2) : RetI w xs e w2 := by
  obtain ⟨v, rfl, hr, hb2⟩ := h
  exact ⟨v, rfl, hr.le hb.size, hb.andThen hb2⟩

theorem ownsNil (w : World) (o : Obj) (v : Value) (B : Nat) (h : (w.alloc o).ownsRow B 3 1 v 0 []) : RowI (w.alloc o) B v [] := h

theorem specHolesOf_no (a h s : Int) (w : World) (hb : bOk a h s = false) :
    Calls Tryd.prog 62 #[.agg #[.int .i64 a, .int .i64 h, .int .i64 s]] w (RetI w []) := by
  go_enter Tryd.func62, Tryd.ntmps62
  have hz0 : w.heap.size < (w.alloc (.cells #[.int .i64 a, .int .i64 h, .int .i64 s] 25)).heap.size := by simp
  go_wp2_with fail
  refine (specBoardOk_b _ _ _ _ (by assumption) _).mono ?_
  rintro e w1 ⟨rfl, hB1⟩
  go_wp2
  go_ret
  exact ⟨_, rfl, World.ownsRow_made w1 #[] 0 (by have := hB1.size; simp at this; omega) (by decide) rfl, ((below1 _ _).andThen hB1).more _⟩

theorem specHolesOf_yes (W H S : Nat) (ok : Ok W H S) (w : World) :
    Calls Tryd.prog 62 #[.agg #[.int .i64 W, .int .i64 H, .int .i64 S]] w (RetI w (bitsTo S 49)) := by
  have hb := bOk_of ok
  have hS := ok.lt63
  go_enter Tryd.func62, Tryd.ntmps62
  have hz0 : w.heap.size < (w.alloc (.cells #[.int .i64 W, .int .i64 H, .int .i64 S] 25)).heap.size := by simp
  go_wp2_with fail
  refine (specBoardOk_b _ _ _ _ (by assumption) _).mono ?_
  rintro e w1 ⟨rfl, hB1⟩
  obtain ⟨hc1, hf1, hz1⟩ := bcell3 hB1 hz0
  go_wp2_with fail
  refine (l02List_any S hS _).mono ?_
  rintro e w2 hr
  obtain ⟨v, rfl, hr1, hr2⟩ := hr
  go_wp2
  go_ret
  exact ⟨_, rfl, hr1.le (by have := hB1.size; simp at this; omega), ((below1 _ _).andThen hB1).andThen hr2⟩

theorem specHolesOf_any (a h s : Int) (w : World) :
    Calls Tryd.prog 62 #[.agg #[.int .i64 a, .int .i64 h, .int .i64 s]] w (RetI w (holesL a h s)) := by
  cases hb : bOk a h s
  · rw [holesL_no hb]; exact specHolesOf_no a h s w hb
  · obtain ⟨W, H, S, rfl, rfl, rfl, ok⟩ := (bOk_iff _ _ _).1 hb
    rw [holesL_ok ok, ← bits49 ok]
    exact specHolesOf_yes W H S ok w

set_option maxHeartbeats 400000 in
set_option maxRecDepth 100000 in
theorem HolesOf_no (a h s : Int) (w : World) (hb : bOk a h s = false) :
    Calls Tryd.prog 12 #[.agg #[.int .i64 a, .int .i64 h, .int .i64 s]] w (RetI w []) := by
  go_enter Tryd.func12, Tryd.ntmps12
  go_wp2_with fail
  refine wp_loop_rounds 1 ?_
  rw [rounds_succ]
  go_wp2_with fail
  refine (BoardOk_b _ _ _ _ (by assumption) _).mono ?_
  rintro e w1 ⟨rfl, hB1⟩
  have hrow : RowI ((w.alloc (.cells #[.int .i64 a, .int .i64 h, .int .i64 s] 25)).alloc (.cells #[] 3)) w.heap.size (.slice (some ⟨w.heap.size + 1, 0, none⟩) 0 0) [] :=
    rowNil (w.alloc _) _ _ (by simp) (by simp)
  have HR := Lib.hid (hrow.kept hB1)
  clear hrow
  go_wp2
  go_ret
  exact ⟨_, rfl, HR.out, ((below1 _ _).more _).andThen hB1⟩

set_option maxHeartbeats 400000 in
set_option maxRecDepth 100000 in
theorem HolesOf_yes (W H S : Nat) (ok : Ok W H S) (w : World) :
    Calls Tryd.prog 12 #[.agg #[.int .i64 W, .int .i64 H, .int .i64 S]] w (RetI w (bitsTo S (W * H))) := by
  have hb := bOk_of ok
  have hS := ok.lt63
  have ha := ok.area
  have hm := mul_bd2 ok
  obtain ⟨i0, hi, hz0, hz1, hz2⟩ := info_parts info_int
  go_enter Tryd.func12, Tryd.ntmps12
  go_wp2_with fail
  go_loopw [3, 4] (fun v i wr => ∃ k : Nat, k ≤ W * H ∧ i = .int .i64 k ∧ ListRel (w.alloc (.cells #[.int .i64 W, .int .i64 H, .int .i64 S] 25)) (w.heap.size + 1) S k v wr) (fun _ i _ => (W * H - (intOf i).toNat))
  case atStart => exact ⟨0, by omega, rfl, ⟨rowNil (w.alloc _) _ _ (by simp) (by simp), (Below.refl _ _).alloc (by simp) _, by simp⟩⟩
  case round =>
    obtain ⟨k, hk, rfl, hR⟩ := hrel
    have hsz : w.heap.size < wr.heap.size := hR.sz
    have c0 : wr.cell? ⟨w.heap.size, 0, none⟩ = some (.int .i64 W) := by
      rw [hR.bel.cell (p := ⟨w.heap.size, 0, none⟩) (Nat.lt_succ_self _), World.cell?_alloc_at _ _ _ _ rfl]; rfl
    have c1 : wr.cell? ⟨w.heap.size, 1, none⟩ = some (.int .i64 H) := by
      rw [hR.bel.cell (p := ⟨w.heap.size, 1, none⟩) (Nat.lt_succ_self _), World.cell?_alloc_at _ _ _ _ rfl]; rfl
    have c2 : wr.cell? ⟨w.heap.size, 2, none⟩ = some (.int .i64 S) := by
      rw [hR.bel.cell (p := ⟨w.heap.size, 2, none⟩) (Nat.lt_succ_self _), World.cell?_alloc_at _ _ _ _ rfl]; rfl
    go_wp2_with fail
    refine (BoardOk_b _ _ _ _ (by assumption) _).mono ?_
    rintro e w1 ⟨rfl, hB1⟩
    obtain ⟨hc1, hf1, hzw⟩ := bcell3 hB1 hsz
    have hR1 := hR.more hB1
    clear hR hB1
    by_cases hlt : k < W * H
    · have hk62 : k ≤ 62 := by omega
      have hlt2 : (k : Int) < (W : Int) * (H : Int) := by have := mul_bd ok; omega
      have HL := Lib.hid hlt
      clear hlt
      cases hbit : S.testBit k
      · have HB := Lib.hid hbit
        clear hbit
        go_wp2_with (go_at_call 37; refine (hasBit_c false _ _ (by assumption) (by omega) HB.out _).mono ?_; rintro e wq ⟨rfl, hwq⟩; subst wq)
        go_roundw
        case rel => exact ⟨k + 1, by have := HL.out; omega, by go_num, hR1.keep HB.out⟩
        case measure => have := HL.out; simp [intOf]; omega
      · have HB := Lib.hid hbit
        clear hbit
        have hown := hR1.row
        unfold RowI at hown
        have hsz1 := hR1.sz
        have hle := bitsTo_le S k
        go_wp2_with (first | (go_at_call 37; refine (hasBit_c true _ _ (by assumption) (by omega) HB.out _).mono ?_; rintro e wq ⟨rfl, hwq⟩; subst wq) | (at_builtin; refine wpList_append_own _ rfl _ _ 27 rfl (w.heap.size + 1) 3 i0 (.int .i64 0) 1 8 Tryd.underlying27 hi hz0 hz1 hz2 rfl (by decide) _ _ _ rfl (hown.alloc _) ⟨w1.heap.size, 0, none⟩ 1 1 [.int .i64 k] rfl rfl ?c1 ?c2 ?c3 ?c4 ?c5 ?_))
        case c1 => exact cell_one_new _ _ _
        case c2 => simp [Value.oneCell']
        case c3 => unfold maxLen; omega
        case c4 => omega
        case c5 => simp; omega
        intro v' w2 hown' hgrow _
        clear hown
        go_wp2
        go_roundw
        case rel => exact ⟨k + 1, by have := HL.out; omega, by go_num, hR1.put HB.out hown' hgrow⟩
        case measure => have := HL.out; simp [intOf]; omega
    · have hlt2 : ¬ (k : Int) < (W : Int) * (H : Int) := by have := mul_bd ok; omega
      have HL := Lib.hid hlt
      clear hlt
      go_wp2
      have hke : k = W * H := by have := HL.out; omega
      rw [hke] at hR1
      go_ret
      exact ⟨_, rfl, hR1.row.le (by omega), (below1 _ _).trans (hR1.bel.mono (by omega))⟩
end Go.Proofs.YtnnoahoepljejaaDoor
