/-
  The walks of the reference's draws: a cursor over the bytes handed in.
-/
import Derived.Test.YtnnoahoepljejaaDoorCode
import Derived.StillTailTactics
import Derived.Deep.RegionHeld3
import Derived.Maps.AppendAt
import Derived.OwnWalk
import Derived.BigQuiet
import Derived.Deep.QuietTactic
import Derived.Lib.SmallJoins
namespace Go.Proofs.YtnnoahoepljejaaDoor
open Go.RowKit
set_option linter.unusedVariables false
set_option linter.unusedSimpArgs false

theorem grown_trans {a b c : World} {row : Option Nat} (h : a.grownBy b row) (k : b.grownBy c row) : a.grownBy c row := h.trans k
theorem grown_any' {a b : World} (h : Below a.heap.size a b) (row : Option Nat) : a.grownBy b row := ⟨h.os, h.tape, h.output, h.size, fun k hk _ => h.block k hk⟩
theorem cell_keptA {w w1 : World} {n o : Nat} {v : Value} (h : w.cell? ⟨n, o, none⟩ = some v) (hb : Below w.heap.size w w1) : w1.cell? ⟨n, o, none⟩ = some v :=
  (hb.cell (p := ⟨n, o, none⟩) (World.block_lt_of_cell? w _ h)).trans h
theorem big_any (ad : Option Addr) (len cap : Nat) (b : Bool) (hb : decide ((1048576 : Int) < (len : Int)) = b) (w : World) :
    Calls Tryd.prog 10 #[.slice ad len cap] w fun e w' => e = .returned (.bool b) ∧ w' = w := by
  go_enter Tryd.func10, Tryd.ntmps10
  go_wp2
  go_ret
  exact ⟨by rw [← hb]; rfl, rfl⟩

set_option maxHeartbeats 800000 in
theorem l01Byte_any (n : Nat) (ad : Option Addr) (len cap : Nat) (w : World) (hc : Cur n ad len cap w) :
    Calls Tryd.prog 58 #[.pointer (some ⟨n, 0, none⟩)] w fun e w' => ∃ x : Nat, x ≤ 255 ∧ e = .returned (.int .i64 x) ∧ Drew n ad len cap w w' := by
  obtain ⟨H, hmix⟩ := hc.mix
  obtain ⟨I, hI, hpos⟩ := hc.pos
  have hcode := hc.code
  have hf1 := hc.f1
  have hf2 := hc.f2
  obtain ⟨H2, hH2⟩ : ∃ H2, wrap64 (wrap64 (H * 6364136223846793005) + 1442695040888963407) = H2 := ⟨_, rfl⟩
  go_enter Tryd.func58, Tryd.ntmps58
  go_wp2_with fail
  have hc2 := hc.setMix H2
  have hg2 := set_grown w n 2 (.int .i64 H2)
  generalize w.setCell ⟨n, 2, none⟩ (.int .i64 H2) = w2 at hc2 hg2 ⊢
  clear hmix hpos hcode hf1 hf2 hH2 hc
  obtain ⟨H, hmix⟩ := hc2.mix
  obtain ⟨I, hI, hpos⟩ := hc2.pos
  have hcode := hc2.code
  have hsz := hc2.sz
  obtain ⟨x, hx255, hx0⟩ := i64_mask (bits BinOp.xor IntKind.i64 (H / 8589934592) (H / 35184372088832)) 255 (by decide)
  have hx : bits BinOp.and IntKind.i64 (bits BinOp.xor IntKind.i64 (H / 8589934592) (H / 35184372088832)) 255 = (x : Int) := hx0
  clear hx0
  go_quiet (fail)
  have hbd : Below w2.heap.size w2 (w2.drewN nq) := Joins.below_draws _ _ _
  have hc3 := hc2.kept hbd
  have hg3 := grown_trans hg2 (grown_any' hbd _)
  generalize w2.drewN nq = w3 at hc3 hg3 ⊢
  clear hc2 hg2 hbd hmix hpos hcode hsz hx
  obtain ⟨I, hI, hpos⟩ := hc3.pos
  have hcode := hc3.code
  have hsz := hc3.sz
  have hsm := hc3.small
  by_cases hlt : I < len
  · have hI0 : (0 : Int) ≤ (I : Int) := by omega
    have hI1 : (I : Int) < (len : Int) := by omega
    go_wp2_with fail
    go_quiet (fail)
    have hbd : Below w3.heap.size w3 (w3.drewN nq) := Joins.below_draws _ _ _
    have hc4 := hc3.kept hbd
    have hg4 := grown_trans hg3 (grown_any' hbd _)
    replace hpos := cell_keptA hpos hbd
    generalize w3.drewN nq = w4 at hc4 hg4 hpos ⊢
    clear hc3 hg3 hbd hcode hsz
    have hcode := hc4.code
    have hsz := hc4.sz
    obtain ⟨_, hby⟩ := hc4.bytes
    rcases hby with h0 | ⟨a, rfl, hat⟩
    · omega
    obtain ⟨cx, cx0, cx1, hcx⟩ := hat I hlt
    obtain ⟨y, hy255, hy0⟩ := i64_mask ((x : Int) + cx) 255 (by decide)
    have hy : bits BinOp.and IntKind.i64 ((x : Int) + cx) 255 = (y : Int) := hy0
    have hw1 : IntKind.i64.wrap cx = cx := Bit.i64_wrap _ (by omega) (by omega)
    clear hy0 hat
    go_wp2_with fail
    go_quiet (fail)
    have hbd : Below w4.heap.size w4 (w4.drewN nq) := Joins.below_draws _ _ _
    have hc5 := hc4.kept hbd
    have hg5 := grown_trans hg4 (grown_any' hbd _)
    replace hpos := cell_keptA hpos hbd
    generalize w4.drewN nq = w5 at hc5 hg5 hpos ⊢
    clear hc4 hg4 hbd hcode hsz hcx
    have hf1 := hc5.f1
    have hc6 := Lib.hid (hc5.setPos (I + 1) (by omega))
    have hg6 := Lib.hid (grown_trans hg5 (set_grown w5 n 1 (.int .i64 ((I + 1 : Nat) : Int))))
    have hcast : ((I + 1 : Nat) : Int) = (I : Int) + 1 := by omega
    rw [hcast] at hc6 hg6
    go_wp2
    go_ret
    exact ⟨y, hy255, rfl, hc6.out, hg6.out⟩
  · have hI1 : ¬ (I : Int) < (len : Int) := by omega
    go_wp2_with fail
    go_quiet (fail)
    have hbd : Below w3.heap.size w3 (w3.drewN nq) := Joins.below_draws _ _ _
    have hc4 := Lib.hid (hc3.kept hbd)
    have hg4 := Lib.hid (grown_trans hg3 (grown_any' hbd _))
    go_wp2
    go_ret
    exact ⟨x, hx255, rfl, hc4.out, hg4.out⟩

theorem Drew.refl {n : Nat} {ad : Option Addr} {len cap : Nat} {w : World} (h : Cur n ad len cap w) : Drew n ad len cap w w := ⟨h, World.grownBy.refl _ _⟩
theorem Drew.trans {n : Nat} {ad : Option Addr} {len cap : Nat} {w w1 w2 : World} (h : Drew n ad len cap w w1) (k : Drew n ad len cap w1 w2) : Drew n ad len cap w w2 := ⟨k.cur, grown_trans h.gr k.gr⟩
theorem Drew.below {n : Nat} {ad : Option Addr} {len cap : Nat} {w w1 : World} {B : Nat} (h : Drew n ad len cap w w1) (hB : B ≤ w.heap.size) (hn : B ≤ n) : Below B w w1 := (Below.refl B w).grown h.gr hB (fun k hk => by simp at hk; omega)

/-- A number that is drawn below m. -/
def BelowRet (n : Nat) (ad : Option Addr) (len cap : Nat) (m : Int) (w : World) (e : Ending) (w' : World) : Prop := ∃ r : Int, 0 ≤ r ∧ (0 < m → r < m) ∧ (m ≤ 0 → r = 0) ∧ r ≤ 4294967295 ∧ e = .returned (.int .i64 r) ∧ Drew n ad len cap w w'

set_option maxHeartbeats 400000 in
theorem l01Below_any (n : Nat) (ad : Option Addr) (len cap : Nat) (m : Int) (hm : m ≤ 9223372036854775807) (w : World) (hc : Cur n ad len cap w) :
    Calls Tryd.prog 44 #[.pointer (some ⟨n, 0, none⟩), .int .i64 m] w (BelowRet n ad len cap m w) := by
  by_cases h0 : m ≤ 0
  · go_enter Tryd.func44, Tryd.ntmps44
    go_wp2
    go_ret
    exact ⟨0, by omega, by omega, fun _ => rfl, by omega, rfl, Drew.refl hc⟩
  have h0' : 0 < m := by omega
  by_cases h1 : m ≤ 256
  · go_enter Tryd.func44, Tryd.ntmps44
    go_wp2_with fail
    refine (l01Byte_any n ad len cap _ hc).mono ?_
    rintro e w1 ⟨x, hx, rfl, hD⟩
    obtain ⟨r, hr⟩ : ∃ r, (x : Int) % m = r := ⟨_, rfl⟩
    have hr2 : ((x : Int)).tmod m = r := by rw [Int.tmod_eq_emod_of_nonneg (by omega)]; exact hr
    have hr0 : 0 ≤ r := by rw [← hr]; exact Int.emod_nonneg _ (by omega)
    have hr1 : r < m := by rw [← hr]; exact Int.emod_lt_of_pos _ h0'
    have HD := Lib.hid hD
    have HR := Lib.hid hr
    clear hD hr
    have hw : IntKind.i64.wrap r = r := Bit.i64_wrap _ (by omega) (by omega)
    go_wp2
    go_ret
    exact ⟨r, hr0, fun _ => hr1, fun h => by omega, by omega, rfl, HD.out⟩
  have h1' : 256 < m := by omega
  go_enter Tryd.func44, Tryd.ntmps44
  go_wp2_with fail
  refine (l01Byte_any n ad len cap _ hc).mono ?_
  rintro e w1 ⟨x, hx, rfl, hD1⟩
  go_wp2_with fail
  refine (l01Byte_any n ad len cap _ hD1.cur).mono ?_
  rintro e w2 ⟨y, hy, rfl, hD2⟩
  go_wp2_with fail
  refine (l01Byte_any n ad len cap _ hD2.cur).mono ?_
  rintro e w3 ⟨z, hz, rfl, hD3⟩
  go_wp2_with fail
  refine (l01Byte_any n ad len cap _ hD3.cur).mono ?_
  rintro e w4 ⟨u, hu, rfl, hD4⟩
  have HD := Lib.hid (((hD1.trans hD2).trans hD3).trans hD4)
  obtain ⟨r, hr⟩ : ∃ r, ((x : Int) * 16777216 + (y : Int) * 65536 + (z : Int) * 256 + (u : Int)) % m = r := ⟨_, rfl⟩
  have hr2 : ((x : Int) * 16777216 + (y : Int) * 65536 + (z : Int) * 256 + (u : Int)).tmod m = r := by rw [Int.tmod_eq_emod_of_nonneg (by omega)]; exact hr
  have hr0 : 0 ≤ r := by rw [← hr]; exact Int.emod_nonneg _ (by omega)
  have hr1 : r < m := by rw [← hr]; exact Int.emod_lt_of_pos _ h0'
  have hrb : r ≤ 4294967295 := by
    have hX : (x : Int) * 16777216 + (y : Int) * 65536 + (z : Int) * 256 + (u : Int) ≤ 4294967295 := by omega
    have hX0 : 0 ≤ (x : Int) * 16777216 + (y : Int) * 65536 + (z : Int) * 256 + (u : Int) := by omega
    generalize (x : Int) * 16777216 + (y : Int) * 65536 + (z : Int) * 256 + (u : Int) = X at hr hX hX0
    have h5 := Int.emod_add_mul_ediv X m
    have h6 : 0 ≤ m * (X / m) := Int.mul_nonneg (by omega) (Int.ediv_nonneg hX0 (by omega))
    omega
  have hw : IntKind.i64.wrap r = r := Bit.i64_wrap _ (by omega) (by omega)
  have HR := Lib.hid hr
  clear hD1 hD2 hD3 hD4 hr hc
  go_wp2
  go_ret
  exact ⟨r, hr0, fun _ => hr1, fun h => by omega, hrb, rfl, HD.out⟩

theorem l01Once_any (n : Nat) (ad : Option Addr) (len cap : Nat) (m : Int) (hm : m ≤ 9223372036854775807) (w : World) (hc : Cur n ad len cap w) :
    Calls Tryd.prog 43 #[.pointer (some ⟨n, 0, none⟩), .int .i64 m] w fun e w' => ∃ b : Bool, e = .returned (.bool b) ∧ Drew n ad len cap w w' := by
  go_enter Tryd.func43, Tryd.ntmps43
  go_wp2_with fail
  refine (l01Below_any n ad len cap m hm _ hc).mono ?_
  rintro e w1 ⟨r, _, _, _, _, rfl, hD⟩
  have HD := Lib.hid hD
  clear hD
  by_cases hr : r = 0
  · have q1 : (r == 0) = true := by simpa using hr
    go_wp2
    go_ret
    exact ⟨_, rfl, HD.out⟩
  · have q1 : (r == 0) = false := by simpa using hr
    go_wp2
    go_ret
    exact ⟨_, rfl, HD.out⟩

theorem l01PickInt_any (n : Nat) (ad : Option Addr) (len cap : Nat) (g L c2 : Nat) (hL : 0 < L) (hL2 : L ≤ 1048576) (hgn : g ≠ n) (w : World) (hc : Cur n ad len cap w) (hat : ∀ j, j < L → ∃ u : Int, w.cell? ⟨g, j, none⟩ = some (.int .i64 u)) :
    Calls Tryd.prog 59 #[.pointer (some ⟨n, 0, none⟩), .slice (some ⟨g, 0, none⟩) L c2] w fun e w' => ∃ u : Int, e = .returned (.int .i64 u) ∧ Drew n ad len cap w w' := by
  have HAT := Lib.hid hat
  clear hat
  go_enter Tryd.func59, Tryd.ntmps59
  go_wp2_with fail
  refine (l01Below_any n ad len cap L (by omega) _ hc).mono ?_
  rintro e w1 ⟨r, hr0, hr1, _, _, rfl, hD⟩
  obtain ⟨k, rfl⟩ := Int.eq_ofNat_of_zero_le hr0
  have hk : (k : Int) < (L : Int) := hr1 (by omega)
  obtain ⟨u, hu⟩ := HAT.out k (by omega)
  have hu1 := hD.gr.cell hu (by simpa using hgn)
  have HD := Lib.hid hD
  clear hD hu hr1
  go_wp2
  go_ret
  exact ⟨u, rfl, HD.out⟩

theorem row_ten (w : World) (x0 x1 x2 x3 x4 x5 x6 x7 x8 x9 : Int) (t : TypeId) : ∀ j, j < 10 → ∃ u : Int, (w.alloc (.cells #[.int .i64 x0, .int .i64 x1, .int .i64 x2, .int .i64 x3, .int .i64 x4, .int .i64 x5, .int .i64 x6, .int .i64 x7, .int .i64 x8, .int .i64 x9] t)).cell? ⟨w.heap.size, j, none⟩ = some (.int .i64 u) := by
  intro j hj
  rw [World.cell?_alloc_at _ _ _ _ rfl]
  have : j = 0 ∨ j = 1 ∨ j = 2 ∨ j = 3 ∨ j = 4 ∨ j = 5 ∨ j = 6 ∨ j = 7 ∨ j = 8 ∨ j = 9 := by omega
  rcases this with rfl | rfl | rfl | rfl | rfl | rfl | rfl | rfl | rfl | rfl <;> exact ⟨_, rfl⟩

set_option maxHeartbeats 400000 in
theorem l01Number_any (n : Nat) (ad : Option Addr) (len cap : Nat) (B : Nat) (w : World) (hc : Cur n ad len cap w) (hB : B ≤ n) (hBw : B ≤ w.heap.size) :
    Calls Tryd.prog 45 #[.pointer (some ⟨n, 0, none⟩)] w fun e w' => ∃ u : Int, e = .returned (.int .i64 u) ∧ Cur n ad len cap w' ∧ Below B w w' := by
  go_enter Tryd.func45, Tryd.ntmps45
  go_wp2_with fail
  refine (l01Below_any n ad len cap 4 (by decide) _ hc).mono ?_
  rintro e w1 ⟨r, hr0, hr1, _, _, rfl, hD1⟩
  have hsz := hD1.gr.size
  have hz1 := hD1.cur.sz
  have hb1 := Lib.hid (hD1.below hBw hB)
  by_cases h0 : r = 0
  · have q0 : (r == 0) = true := by simpa using h0
    have hc1 := hD1.cur.kept (below1 w1 (.cells #[.int .i64 (-1), .int .i64 0, .int .i64 127, .int .i64 128, .int .i64 16383, .int .i64 16384, .int .i64 1000000000, .int .i64 1000000001, .int .i64 9223372036854775807, .int .i64 (-9223372036854775808)] 3))
    have hat := row_ten w1 (-1) 0 127 128 16383 16384 1000000000 1000000001 9223372036854775807 (-9223372036854775808) 3
    clear hD1 hc
    go_wp2_with fail
    refine (l01PickInt_any n ad len cap w1.heap.size 10 10 (by decide) (by decide) (by omega) _ hc1 hat).mono ?_
    rintro e w2 ⟨u, rfl, hD2⟩
    have hcf := Lib.hid hD2.cur
    have hbf := Lib.hid ((hb1.out.alloc (by omega) _).trans (hD2.below (by simp; omega) hB))
    clear hD2
    go_wp2
    go_ret
    exact ⟨u, rfl, hcf.out, hbf.out⟩
  · have q0 : (r == 0) = false := by simpa using h0
    by_cases h1 : r = 1
    · have q1 : (r == 1) = true := by simpa using h1
      go_wp2_with fail
      refine (l01Below_any n ad len cap 1000000000 (by decide) _ hD1.cur).mono ?_
      rintro e w2 ⟨u, _, _, _, _, rfl, hD2⟩
      have hcf := Lib.hid hD2.cur
      have hbf := Lib.hid (hb1.out.trans (hD2.below (by omega) hB))
      clear hD2 hD1 hc
      go_wp2
      go_ret
      exact ⟨u, rfl, hcf.out, hbf.out⟩
    · have q1 : (r == 1) = false := by simpa using h1
      go_wp2_with fail
      refine (l01Below_any n ad len cap 400 (by decide) _ hD1.cur).mono ?_
      rintro e w2 ⟨u, _, _, _, _, rfl, hD2⟩
      have hcf := Lib.hid hD2.cur
      have hbf := Lib.hid (hb1.out.trans (hD2.below (by omega) hB))
      clear hD2 hD1 hc
      go_wp2
      go_ret
      exact ⟨u, rfl, hcf.out, hbf.out⟩

/-- A new cursor. -/
def NewCur (ad : Option Addr) (len cap : Nat) (w : World) (e : Ending) (w' : World) : Prop := ∃ n, e = .returned (.pointer (some ⟨n, 0, none⟩)) ∧ w.heap.size ≤ n ∧ Cur n ad len cap w' ∧ Below w.heap.size w w'

theorem newCur_made (ad : Option Addr) (len cap : Nat) (H : Int) (w : World) (t : TypeId) (hlen : len ≤ 1048576) (h : IsCode w ad len) (e : Ending) (he : e = .returned (.pointer (some ⟨w.heap.size, 0, none⟩))) : NewCur ad len cap w e (w.alloc (.cells #[.slice ad len cap, .int .i64 0, .int .i64 H] t)) := by
  have hb : Below w.heap.size w (w.alloc (.cells #[.slice ad len cap, .int .i64 0, .int .i64 H] t)) := below1 _ _
  refine ⟨w.heap.size, he, Nat.le_refl _, ⟨?_, ⟨0, Nat.zero_le _, ?_⟩, ⟨H, ?_⟩, World.frozen?_alloc_at _ _ _ _ rfl, World.frozen?_alloc_at _ _ _ _ rfl, h.kept hb, h.old.imp id fun k a ha => Nat.ne_of_lt (k a ha), hlen⟩, hb⟩
  all_goals
    rw [World.cell?_alloc_at _ _ _ _ rfl]
    rfl

set_option maxHeartbeats 400000 in
theorem l01New_any (ad : Option Addr) (len cap : Nat) (hlen : len ≤ 1048576) (w : World) (h : IsCode w ad len) :
    Calls Tryd.prog 36 #[.slice ad len cap] w (NewCur ad len cap w) := by
  have HC := Lib.hid h
  clear h
  go_enter Tryd.func36, Tryd.ntmps36
  go_wp2_with fail
  go_loopw [3, 4] (fun h i wr => ∃ (k : Nat) (H : Int), k ≤ len ∧ i = .int .i64 k ∧ h = .int .i64 H ∧ 0 ≤ H ∧ H ≤ 1073741823 ∧ wr = w) (fun _ i _ => len - (intOf i).toNat)
  case atStart => exact ⟨0, 33023 + len, by omega, rfl, by go_num, by omega, by omega, rfl⟩
  case round =>
    obtain ⟨k, H, hk, rfl, rfl, hH0, hH1, hw⟩ := hrel
    subst hw
    by_cases hlt : k < len
    · by_cases h4 : k < 4000
      · have hI0 : (0 : Int) ≤ (k : Int) := by omega
        have hI1 : (k : Int) < (len : Int) := by omega
        have hI2 : (k : Int) < 4000 := by omega
        rcases HC.out.2 with h0 | ⟨a, rfl, hat⟩
        · omega
        obtain ⟨cx, cx0, cx1, hcx⟩ := hat k hlt
        obtain ⟨y, hy1, hy0⟩ := i64_mask (H * 131 + cx + 7) 1073741823 (by decide)
        have hy : bits BinOp.and IntKind.i64 (H * 131 + cx + 7) 1073741823 = (y : Int) := hy0
        have hw1 : IntKind.i64.wrap cx = cx := Bit.i64_wrap _ (by omega) (by omega)
        clear hy0 hat
        go_wp2
        go_roundw
        case rel => exact ⟨k + 1, y, by omega, by go_num, rfl, by omega, by omega, by first | rfl | trivial⟩
        case measure => simp [intOf]; omega
      · have hI2 : ¬ (k : Int) < 4000 := by omega
        have hI1 : (k : Int) < (len : Int) := by omega
        go_wp2
        go_ret
        exact newCur_made _ _ _ _ _ _ hlen HC.out _ rfl
    · have hI1 : ¬ (k : Int) < (len : Int) := by omega
      go_wp2
      go_ret
      exact newCur_made _ _ _ _ _ _ hlen HC.out _ rfl
end Go.Proofs.YtnnoahoepljejaaDoor
