/-
  Classes and keys of a position on plain numbers. No program in sight.
-/
import Derived.Test.YtoipnooncnpndaaLawI
import Derived.Test.YtoipnooncnpndaaAcc
import Derived.OwnWalk
import Derived.Lib.SmallJoins
import Derived.StillTailTactics
import Derived.Deep.RegionHeld3
namespace Go.Proofs.Ytoipnooncnpndaa
open Go.RowKit
open Peg
set_option linter.unusedVariables false

/-- The places of the bits of S below n. -/
def setN (S n : Nat) : List Nat := (List.range n).filter S.testBit
theorem bitsTo_setN (S n : Nat) : bitsTo S n = (setN S n).map (fun i : Nat => (i : Int)) := rfl
theorem setN_lt {S n k : Nat} (h : k ∈ setN S n) : k < n ∧ S.testBit k = true := by
  unfold setN at h; rw [List.mem_filter, List.mem_range] at h; exact h
theorem setN_len (S n : Nat) : (setN S n).length = (bitsTo S n).length := by rw [bitsTo_setN, List.length_map]
theorem setN_all (S n m : Nat) (h : S < 2 ^ n) : setN S (n + m) = setN S n := by
  induction m with
  | zero => rfl
  | succ m ih =>
    unfold setN at ih ⊢
    rw [← Nat.add_assoc, List.range_succ, List.filter_append, ih]
    have : S.testBit (n + m) = false := Nat.testBit_lt_two_pow (Nat.lt_of_lt_of_le h (Nat.pow_le_pow_right (by decide) (by omega)))
    simp [this]
/-- The holes with a peg are the bits of the position. -/
theorem setN_pegs {W H S P : Nat} (ok : Ok W H S) (hP : P &&& S = P) : (setN S (W * H)).filter P.testBit = setN P 49 := by
  have := ok.area
  have hPlt : P < 2 ^ (W * H) := Nat.lt_of_le_of_lt (sub_le hP) ok.s2
  rw [show 49 = W * H + (49 - W * H) from by omega, setN_all P _ _ hPlt]
  unfold setN
  rw [List.filter_filter]
  congr 1
  funext k
  have h := congrArg (fun x => x.testBit k) hP
  simp only [Nat.testBit_and] at h
  cases h1 : P.testBit k
  · simp
  · rw [h1] at h; simp at h; simp [h]

/-- One number turned over. -/
def tog (xs : List Int) (i : Nat) : List Int := xs.set i (1 - xs[i]?.getD 0)
def Bin (xs : List Int) : Prop := xs.length = 6 ∧ ∀ i, i < 6 → xs[i]?.getD 0 = 0 ∨ xs[i]?.getD 0 = 1
theorem Bin.tog {xs : List Int} (h : Bin xs) (i : Nat) (hi : i < 6) : Bin (tog xs i) := by
  refine ⟨by unfold Go.Proofs.Ytoipnooncnpndaa.tog; rw [List.length_set]; exact h.1, fun j hj => ?_⟩
  unfold Go.Proofs.Ytoipnooncnpndaa.tog
  rw [List.getElem?_set]
  by_cases e : i = j
  · subst e
    rw [if_pos rfl, h.1, if_pos hj]
    have := h.2 i hj
    simp only [Option.getD_some]
    omega
  · rw [if_neg e]; exact h.2 j hj
def zero6 : List Int := [0, 0, 0, 0, 0, 0]
theorem bin_zero : Bin zero6 := ⟨rfl, by decide⟩
/-- A peg of hole k turns over one number of each half. -/
def clsStep (W : Nat) (xs : List Int) (k : Nat) : List Int := tog (tog xs ((k % W + k / W) % 3)) (3 + (k % W + 2 * (k / W)) % 3)
theorem Bin.step {xs : List Int} (h : Bin xs) (W k : Nat) : Bin (clsStep W xs k) := (h.tog _ (by omega)).tog _ (by omega)
def clsL (W : Nat) (ks : List Nat) : List Int := ks.foldl (clsStep W) zero6
theorem clsL_snoc (W : Nat) (ks : List Nat) (k : Nat) : clsL W (ks ++ [k]) = clsStep W (clsL W ks) k := by unfold clsL; rw [List.foldl_append]; rfl
theorem bin_fold (W : Nat) : ∀ (ks : List Nat) (xs : List Int), Bin xs → Bin (ks.foldl (clsStep W) xs)
  | [], xs, h => h
  | k :: ks, xs, h => bin_fold W ks _ (h.step W k)
theorem bin_cls (W : Nat) (ks : List Nat) : Bin (clsL W ks) := bin_fold W ks _ bin_zero
theorem cls_take {W : Nat} {ks : List Nat} {j k : Nat} (h : ks[j]? = some k) : clsL W (ks.take (j + 1)) = clsStep W (clsL W (ks.take j)) k := by
  rw [List.take_add_one, h]; exact clsL_snoc _ _ _
theorem cls_take_yes {W : Nat} {ks : List Nat} {f : Nat → Bool} {j k : Nat} (h : ks[j]? = some k) (hf : f k = true) : clsL W ((ks.take (j + 1)).filter f) = clsStep W (clsL W ((ks.take j).filter f)) k := by
  rw [List.take_add_one, h, List.filter_append]; simp [hf, clsL_snoc]
theorem cls_take_no {W : Nat} {ks : List Nat} {f : Nat → Bool} {j k : Nat} (h : ks[j]? = some k) (hf : f k = false) : clsL W ((ks.take (j + 1)).filter f) = clsL W ((ks.take j).filter f) := by
  rw [List.take_add_one, h, List.filter_append]; simp [hf]

/-- The class of a position, or nothing. -/
def classL (a h s p : Int) : List Int := if pOk a h s p then clsL a.toNat (setN p.toNat 49) else []
theorem classL_no {a h s p : Int} (h1 : pOk a h s p = false) : classL a h s p = [] := by unfold classL; rw [h1]; rfl
theorem classL_yes {W H S P : Nat} (h1 : pOk W H S P = true) : classL W H S P = clsL W (setN P 49) := by unfold classL; rw [h1]; rfl
theorem classL_bin {a h s p : Int} (h1 : pOk a h s p = true) : Bin (classL a h s p) := by unfold classL; rw [h1, if_pos rfl]; exact bin_cls _ _
def diff2 (x y : Int) : Int := if x = y then 0 else 1
def keyOf6 (c : List Int) : List Int := [diff2 (c[0]?.getD 0) (c[1]?.getD 0), diff2 (c[1]?.getD 0) (c[2]?.getD 0), diff2 (c[3]?.getD 0) (c[4]?.getD 0), diff2 (c[4]?.getD 0) (c[5]?.getD 0)]
def keyL (a h s p : Int) : List Int := if pOk a h s p then keyOf6 (classL a h s p) else []
theorem keyL_no {a h s p : Int} (h1 : pOk a h s p = false) : keyL a h s p = [] := by unfold keyL; rw [h1]; rfl
theorem keyL_yes {a h s p : Int} (h1 : pOk a h s p = true) : keyL a h s p = keyOf6 (classL a h s p) := by unfold keyL; rw [h1]; rfl
def keyNum (ks : List Int) : Int := ks[0]?.getD 0 + 2 * ks[1]?.getD 0 + 4 * ks[2]?.getD 0 + 8 * ks[3]?.getD 0
def keyN (a h s p : Int) : Int := if pOk a h s p then keyNum (keyL a h s p) else -1
theorem diff2_bin (x y : Int) : diff2 x y = 0 ∨ diff2 x y = 1 := by unfold diff2; split <;> simp
theorem keyL_bin {a h s p : Int} (h1 : pOk a h s p = true) : ∃ x y z u : Int, keyL a h s p = [x, y, z, u] ∧ (x = 0 ∨ x = 1) ∧ (y = 0 ∨ y = 1) ∧ (z = 0 ∨ z = 1) ∧ (u = 0 ∨ u = 1) := by
  rw [keyL_yes h1]
  exact ⟨_, _, _, _, rfl, diff2_bin _ _, diff2_bin _ _, diff2_bin _ _, diff2_bin _ _⟩
def sameK (a h s p q : Int) : Bool := pOk a h s p && (pOk a h s q && (keyL a h s p == keyL a h s q))
theorem sameK_num {a h s p q : Int} (h1 : pOk a h s p = true) (h2 : pOk a h s q = true) : (keyL a h s p == keyL a h s q) = (keyNum (keyL a h s p) == keyNum (keyL a h s q)) := by
  obtain ⟨x, y, z, u, e, hx, hy, hz, hu⟩ := keyL_bin h1
  obtain ⟨x', y', z', u', e', hx', hy', hz', hu'⟩ := keyL_bin h2
  rw [e, e']
  rcases hx with rfl | rfl <;> rcases hy with rfl | rfl <;> rcases hz with rfl | rfl <;> rcases hu with rfl | rfl <;> rcases hx' with rfl | rfl <;> rcases hy' with rfl | rfl <;> rcases hz' with rfl | rfl <;> rcases hu' with rfl | rfl <;> rfl

open Go.RowKit
open Peg
set_option linter.unusedVariables false

theorem cell_keptA {w w1 : World} {n o : Nat} {v : Value} (h : w.cell? ⟨n, o, none⟩ = some v) (hb : Below w.heap.size w w1) : w1.cell? ⟨n, o, none⟩ = some v :=
  (hb.cell (p := ⟨n, o, none⟩) (World.block_lt_of_cell? w _ h)).trans h
theorem mod_bd7 {W H S K : Nat} (ok : Ok W H S) (hk : K < W * H) : ∃ X Y : Nat, K % W = X ∧ K / W = Y ∧ (K : Int) % (W : Int) = X ∧ (K : Int) / (W : Int) = Y ∧ X ≤ 6 ∧ Y ≤ 6 := by
  have h1 := Nat.mod_lt K (show W > 0 from ok.w1)
  have h2 : K / W < H := Nat.div_lt_of_lt_mul hk
  have := ok.w7
  have := ok.h7
  exact ⟨_, _, rfl, rfl, by simp, by simp, by omega, by omega⟩
theorem made1 : (madeCells #[.int .i64 0] 6).toList = zero6.map (Value.int .i64) := by
  simp [madeCells, zero6, List.range_succ]
theorem bound_below {w w' : World} {b : Option Nat} {B : Nat} (hg : w.grownBy w' b) (hb : B ≤ w.heap.size) (h : ∀ k, b = some k → B ≤ k) : Below B w w' := (Below.refl B w).grown hg hb (fun j hj => h j (by simpa using hj))

theorem xor_one {u : Int} (h : u = 0 ∨ u = 1) : bits BinOp.xor IntKind.i64 u 1 = 1 - u := by
  rcases h with rfl | rfl <;> rfl
/-- Two numbers of the class turned over, and all that the walk reads on the way. -/
theorem tog_two {w : World} {B g : Nat} {xs : List Int} {I1 I2 : Nat} {u1 u2 : Int} (h : RowI w B (.slice (some ⟨g, 0, none⟩) 6 6) xs) (hb : Bin xs) (h1 : I1 < 6) (h2 : I2 < 6) (hne : I1 ≠ I2)
    (hu1 : xs[I1]?.getD 0 = u1) (hu2 : (tog xs I1)[I2]?.getD 0 = u2) :
    w.grownBy (w.setCell ⟨g, I1, none⟩ (.int .i64 (1 - u1))) (some g) ∧
    (RowI ((w.setCell ⟨g, I1, none⟩ (.int .i64 (1 - u1))).setCell ⟨g, I2, none⟩ (.int .i64 (1 - u2))) B (.slice (some ⟨g, 0, none⟩) 6 6) (tog (tog xs I1) I2) ∧ (w.setCell ⟨g, I1, none⟩ (.int .i64 (1 - u1))).grownBy ((w.setCell ⟨g, I1, none⟩ (.int .i64 (1 - u1))).setCell ⟨g, I2, none⟩ (.int .i64 (1 - u2))) (some g)) ∧
    w.cell? ⟨g, I1, none⟩ = some (.int .i64 u1) ∧ w.cell? ⟨g, I2, none⟩ = some (.int .i64 u2) ∧ w.frozen? ⟨g, I1, none⟩ = false ∧ w.frozen? ⟨g, I2, none⟩ = false ∧
    bits BinOp.xor IntKind.i64 u1 1 = 1 - u1 ∧ bits BinOp.xor IntKind.i64 u2 1 = 1 - u2 ∧ wrap64 (1 - u1) = 1 - u1 ∧ wrap64 (1 - u2) = 1 - u2 := by
  have hl := hb.1
  have h6 : RowI w B (.slice (some ⟨g, 0, none⟩) xs.length 6) xs := by rw [hl]; exact h
  have e : (tog xs I1)[I2]?.getD 0 = xs[I2]?.getD 0 := by
    unfold tog; rw [List.getElem?_set, if_neg hne]
  have S1 := RowI.set h hl I1 (1 - u1)
  have hb1 := hb.tog I1 h1
  have ht : xs.set I1 (1 - u1) = tog xs I1 := by unfold tog; rw [hu1]
  rw [ht] at S1
  have S2 := RowI.set S1.1 hb1.1 I2 (1 - u2)
  have ht2 : (tog xs I1).set I2 (1 - u2) = tog (tog xs I1) I2 := by unfold tog at hu2 ⊢; rw [hu2]
  rw [ht2] at S2
  have c1 := RowI.at h6 I1 (by omega)
  have c2 := RowI.at h6 I2 (by omega)
  have g1 : xs[I1]?.getD 0 = u1 := hu1
  have g2 : xs[I2]?.getD 0 = u2 := by rw [← e]; exact hu2
  have w1 : u1 = 0 ∨ u1 = 1 := by rw [← hu1]; exact hb.2 I1 h1
  have w2 : u2 = 0 ∨ u2 = 1 := by rw [← hu2]; exact hb1.2 I2 h2
  refine ⟨S1.2, S2, ?_, ?_, RowI.free h6 I1, RowI.free h6 I2, xor_one w1, xor_one w2, by unfold wrap64; omega, by unfold wrap64; omega⟩
  · rw [← g1]; simpa [show I1 < xs.length from by omega] using c1
  · rw [← g2]; simpa [show I2 < xs.length from by omega] using c2
theorem ClassOf_no (a h s q : Int) (hq : q < 2 ^ 63) (h1 : pOk a h s q = false) (w : World) :
    Calls Try.prog 46 #[.agg #[.int .i64 a, .int .i64 h, .int .i64 s], .int .i64 q] w (RetI w []) := by
  go_enter Try.func46, Try.ntmps46
  go_wp2_with fail
  refine (PositionOk_b _ _ _ _ _ hq h1 _).mono ?_
  rintro e w1 ⟨rfl, hB1⟩
  go_wp2
  go_ret
  exact ⟨_, rfl, ⟨rfl, .inl ⟨rfl, rfl⟩⟩, (below1 _ _).andThen hB1⟩

set_option maxHeartbeats 1600000 in
set_option maxRecDepth 100000 in
theorem ClassOf_yes (W H S P : Nat) (ok : Ok W H S) (hP : P < 2 ^ 49) (hPS : P &&& S = P) (h1 : pOk W H S P = true) (w : World) :
    Calls Try.prog 46 #[.agg #[.int .i64 W, .int .i64 H, .int .i64 S], .int .i64 P] w (RetI w (clsL W (setN P 49))) := by
  obtain ⟨i0, hi, hz0, hz1, hz2⟩ := info_parts info_int
  have hhs : holesL W H S = (setN S (W * H)).map (fun i : Nat => (i : Int)) := by rw [holesL_ok ok]; rfl
  have hfil := setN_pegs ok hPS
  have hlt := fun k (h : k ∈ setN S (W * H)) => (setN_lt h).1
  have hbd := fun k (h : k < W * H) => mod_bd7 ok h
  have hw1 : (1 : Int) ≤ (W : Int) := by have := ok.w1; omega
  have hw7 : (W : Int) ≤ 7 := by have := ok.w7; omega
  have har := ok.area
  generalize setN S (W * H) = hs at hhs hfil hlt
  rw [← hfil]
  have HHS := Lib.hid hhs
  have HLT := Lib.hid hlt
  have HBD := Lib.hid hbd
  have H1 := Lib.hid h1
  clear hhs hfil hlt hbd h1 ok hPS
  go_enter Try.func46, Try.ntmps46
  have X0 := BoxAt.new w W H S 26
  obtain ⟨b0, b1, b2, bz⟩ := X0
  clear bz
  go_wp2_with fail
  refine (PositionOk_b true _ _ _ _ (by omega) H1.out _).mono ?_
  rintro e w1 ⟨rfl, hB1⟩
  replace b0 := cell_keptA b0 hB1
  replace b1 := cell_keptA b1 hB1
  replace b2 := cell_keptA b2 hB1
  have hBel1 := (below1 w (.cells #[.int .i64 W, .int .i64 H, .int .i64 S] 26)).andThen hB1
  have hsz1 := hB1.size
  simp at hsz1
  clear hB1
  go_wp2_with (at_make; refine wpList_make_full _ rfl _ _ 49 rfl w1.heap.size 3 i0 (.int .i64 0) 1 Try.underlying49 hi hz0 hz1 _ _ _ _ 6 rfl rfl rfl rfl ?c1 ?c2 ?c3 ?_)
  case c1 => rw [hz2]; omega
  case c2 => unfold maxLen; omega
  case c3 => omega
  intro ws hown hgr
  rw [made1] at hown
  have R0 : RowI ws w1.heap.size (.slice (some ⟨w1.heap.size, 0, none⟩) 6 6) zero6 := hown
  have hbl := bound_below hgr (Nat.le_refl _) (fun k hk => by simp at hk)
  replace b0 := cell_keptA b0 hbl
  replace b1 := cell_keptA b1 hbl
  replace b2 := cell_keptA b2 hbl
  have hBel2 := hBel1.andThen hbl
  have hszs := hbl.size
  clear hown hgr hbl hBel1
  go_wp2_with fail
  refine (HolesOf_any _ _ _ _).mono ?_
  rintro e w2 hr
  obtain ⟨v, rfl, hr1, hB2⟩ := hr
  rw [HHS.out] at hr1
  have R1 := R0.kept hB2
  replace b0 := Lib.hid (cell_keptA b0 hB2)
  replace b1 := Lib.hid (cell_keptA b1 hB2)
  replace b2 := Lib.hid (cell_keptA b2 hB2)
  have hBel3 := Lib.hid (hBel2.andThen hB2)
  have hsz2 := hB2.size
  have hgsz := R0.lt w1.heap.size (by simp [Value.ownBlock])
  clear R0 hBel2 hB2
  have hml : (hs.map (fun i : Nat => (i : Int))).length = hs.length := List.length_map _
  rcases hr1.forms with ⟨h0, p, cap, rfl⟩ | ⟨hx, g, cap, rfl, hgB, hgs⟩
  · have hh0 : hs = [] := List.map_eq_nil_iff.1 h0
    subst hh0
    go_wp2_with fail
    refine wp_loop_rounds 1 ?_
    rw [rounds_succ]
    go_wp2
    go_ret
    exact ⟨_, rfl, R1.le (by omega), hBel3.out⟩
  · rw [hml] at hx hgs ⊢
    go_wp2_with fail
    go_loopw [18] (fun j wr => ∃ k : Nat, k ≤ hs.length ∧ j = .int .i64 k ∧ RowI wr w1.heap.size (.slice (some ⟨w1.heap.size, 0, none⟩) 6 6) (clsL W ((hs.take k).filter P.testBit)) ∧ w2.grownBy wr (some w1.heap.size)) (fun j _ => hs.length - (intOf j).toNat)
    case atStart => exact ⟨0, by omega, rfl, R1, World.grownBy.refl _ _⟩
    case round =>
      obtain ⟨k, hk, rfl, hrow, hgw⟩ := hrel
      by_cases hlt : k < hs.length
      · obtain ⟨K, hK⟩ : ∃ K, hs[k] = K := ⟨_, rfl⟩
        have hKs : hs[k]? = some K := by rw [← hK]; simp [hlt]
        have hmem : K ∈ hs := by rw [← hK]; exact List.getElem_mem hlt
        have hK49 := HLT.out K hmem
        obtain ⟨X, Y, m1, m2, hX, hY, hX6, hY6⟩ := HBD.out K hK49
        have hK48 : K ≤ 48 := by omega
        have hc := RowI.at (RowI.keptBut hr1 hgw (fun k hk e => by simp [Value.ownBlock] at hk e; omega)) k (by rw [hml]; exact hlt)
        have hmk : (hs.map (fun i : Nat => (i : Int)))[k]?.getD 0 = (K : Int) := by simp [hKs]
        have Hks := Lib.hid hKs
        have hcK : wr.cell? ⟨g, k, none⟩ = some (.int .i64 (K : Int)) := by simpa [hKs] using hc
        have c0 := hgw.cell b0.out (by simp; omega)
        clear hK hKs hmem hc hmk
        obtain ⟨b, hb⟩ : ∃ b, P.testBit K = b := ⟨_, rfl⟩
        have Hb := Lib.hid hb
        clear hb
        cases b
        · go_wp2_with (go_at_call 58; refine (hasBit_c false P K (by omega) (by omega) Hb.out _).mono ?_; rintro e wq ⟨rfl, hwq⟩; subst wq)
          go_roundw
          case rel => exact ⟨k + 1, by omega, by go_num, by rw [cls_take_no Hks.out Hb.out]; exact hrow, hgw⟩
          case measure => simp [intOf]; omega
        · go_wp2_with (go_at_call 58; refine (hasBit_c true P K (by omega) (by omega) Hb.out _).mono ?_; rintro e wq ⟨rfl, hwq⟩; subst wq)
          go_quiet (fail)
          have hbd : Below wr.heap.size wr (wr.drewN nq) := Joins.below_draws _ _ _
          have hrow2 := hrow.kept hbd
          have hgw2 := grown_trans hgw (grown_any hbd _)
          generalize wr.drewN nq = wd at *
          clear hrow hgw hbd hcK c0
          obtain ⟨xs, hxs⟩ : ∃ xs, clsL W ((hs.take k).filter P.testBit) = xs := ⟨_, rfl⟩
          have hbin : Bin xs := by rw [← hxs]; exact bin_cls _ _
          rw [hxs] at hrow2
          have Hxs := Lib.hid hxs
          clear hxs
          obtain ⟨I1, hI1, hJ1⟩ : ∃ I : Nat, ((X : Int) + (Y : Int)) % 3 = I ∧ (X + Y) % 3 = I := ⟨_, by omega, rfl⟩
          obtain ⟨I2, hI2, hJ2⟩ : ∃ I : Nat, (3 : Int) + ((X : Int) + 2 * (Y : Int)) % 3 = I ∧ 3 + (X + 2 * Y) % 3 = I := ⟨_, by omega, rfl⟩
          have hne : I1 ≠ I2 := by omega
          have hne2 : I2 ≠ I1 := by omega
          obtain ⟨u1, hu1⟩ : ∃ u, xs[I1]?.getD 0 = u := ⟨_, rfl⟩
          obtain ⟨u2, hu2⟩ : ∃ u, (tog xs I1)[I2]?.getD 0 = u := ⟨_, rfl⟩
          obtain ⟨S1, S2, k1, k2, f1, f2, x1, x2, y1, y2⟩ := tog_two hrow2 hbin (I1 := I1) (I2 := I2) (by omega) (by omega) hne hu1 hu2
          have hgw3 := Lib.hid (grown_trans (grown_trans hgw2 S1) S2.2)
          have hr3 := Lib.hid S2.1
          have HJ := Lib.hid (And.intro hJ1 hJ2)
          clear S1 S2 hrow2 hgw2 hbin hu1 hu2 hJ1 hJ2
          go_wp2
          go_roundw
          case rel =>
            refine ⟨k + 1, by omega, by go_num, ?_, hgw3.out⟩
            rw [cls_take_yes Hks.out Hb.out, Hxs.out]
            unfold clsStep
            rw [m1, m2, HJ.out.1, HJ.out.2]
            exact hr3.out
          case measure => simp [intOf]; omega
      · have hge : k = hs.length := by omega
        go_wp2
        go_ret
        rw [hge, List.take_length] at hrow
        exact ⟨_, rfl, hrow.le (by omega), hBel3.out.trans (bound_below hgw (by omega) (fun j hj => by simp at hj; omega))⟩

open Go.RowKit
open Peg
set_option linter.unusedVariables false

theorem setN_area {W H S P k : Nat} (ok : Ok W H S) (hP : P &&& S = P) (h : k ∈ setN P 49) : k < W * H := by
  by_cases hk : k < W * H
  · exact hk
  · have h1 := (setN_lt h).2
    have hPlt : P < 2 ^ (W * H) := Nat.lt_of_le_of_lt (sub_le hP) ok.s2
    rw [Nat.testBit_lt_two_pow (Nat.lt_of_lt_of_le hPlt (Nat.pow_le_pow_right (by decide) (by omega)))] at h1
    cases h1

open Go.RowKit
open Peg
set_option linter.unusedVariables false

/-- A take with the temporary written out. -/
theorem takeE {P : Program} {ops : Array Oper} {Q : Exit → Act → World → Prop} {md : Region.Mode} {S : World → Prop} {i : Nat} {oi : Oper} {d : Option Tmp} {v : Value} {fuel : Nat} {listed : Array Bool} {a : Act} {w : World} (hi : ops[i]? = some oi)
    (hs : Region.noSelect ops = true) (hf : Region.free md ops listed i = true) (hr : (Region.ready md ops listed).contains i = true) (hd : oi.dst = d)
    (hQ : ∀ c a w, Q (.panic c) (a.put d v) w → Q (.panic c) a w) (hy : YieldsIf P ops S oi v a) (hS : S w)
    (h : wpAnyH P md ops Q S fuel (listed.setIfInBounds i true) (a.put d v) w) : wpAnyH P md ops Q S (fuel + 1) listed a w := by
  subst hd
  exact wpAnyH_take hi hs hf hr hQ hy hS h
theorem pos_parts {a h s q : Int} (h1 : pOk a h s q = true) : ∃ W H S P : Nat, a = W ∧ h = H ∧ s = S ∧ q = P ∧ Ok W H S ∧ P < 2 ^ 49 ∧ P &&& S = P := by
  have hb : bOk a h s = true := by unfold pOk at h1; simp only [Bool.and_eq_true] at h1; exact h1.1
  obtain ⟨W, H, S, rfl, rfl, rfl, ok⟩ := (bOk_iff _ _ _).1 hb
  obtain ⟨P, rfl, hP⟩ := (pOk_iff ok q).1 h1
  exact ⟨W, H, S, P, rfl, rfl, rfl, rfl, ok, Nat.lt_of_le_of_lt (sub_le hP) ok.lt, hP⟩

theorem ClassOf_any (a h s q : Int) (hq : q < 2 ^ 63) (w : World) :
    Calls Try.prog 46 #[.agg #[.int .i64 a, .int .i64 h, .int .i64 s], .int .i64 q] w (RetI w (classL a h s q)) := by
  cases h1 : pOk a h s q
  · rw [classL_no h1]; exact ClassOf_no a h s q hq h1 w
  · obtain ⟨W, H, S, P, rfl, rfl, rfl, rfl, ok, hP, hPS⟩ := pos_parts h1
    rw [classL_yes h1]; exact ClassOf_yes W H S P ok hP hPS h1 w

/-- A row of six numbers, as the walk reads it. -/
theorem six_at {w : World} {B : Nat} {v : Value} {c : List Int} (h : RowI w B v c) (hb : Bin c) : ∃ (g cap : Nat) (x0 x1 x2 x3 x4 x5 : Int), v = .slice (some ⟨g, 0, none⟩) 6 cap ∧ c = [x0, x1, x2, x3, x4, x5] ∧
    (x0 = 0 ∨ x0 = 1) ∧ (x1 = 0 ∨ x1 = 1) ∧ (x2 = 0 ∨ x2 = 1) ∧ (x3 = 0 ∨ x3 = 1) ∧ (x4 = 0 ∨ x4 = 1) ∧ (x5 = 0 ∨ x5 = 1) ∧
    w.cell? ⟨g, 0, none⟩ = some (.int .i64 x0) ∧ w.cell? ⟨g, 1, none⟩ = some (.int .i64 x1) ∧ w.cell? ⟨g, 2, none⟩ = some (.int .i64 x2) ∧ w.cell? ⟨g, 3, none⟩ = some (.int .i64 x3) ∧ w.cell? ⟨g, 4, none⟩ = some (.int .i64 x4) ∧ w.cell? ⟨g, 5, none⟩ = some (.int .i64 x5) := by
  have h6 := hb.1
  match c, h6, h, hb with
  | [x0, x1, x2, x3, x4, x5], _, h, hb =>
    rcases h.forms with ⟨h0, _⟩ | ⟨_, g, cap, rfl, _⟩
    · cases h0
    · exact ⟨g, cap, x0, x1, x2, x3, x4, x5, rfl, rfl, hb.2 0 (by decide), hb.2 1 (by decide), hb.2 2 (by decide), hb.2 3 (by decide), hb.2 4 (by decide), hb.2 5 (by decide), RowI.at h 0 (by simp), RowI.at h 1 (by simp), RowI.at h 2 (by simp), RowI.at h 3 (by simp), RowI.at h 4 (by simp), RowI.at h 5 (by simp)⟩
/-- A row of four numbers. -/
theorem four_at {w : World} {B : Nat} {v : Value} {x0 x1 x2 x3 : Int} (h : RowI w B v [x0, x1, x2, x3]) : ∃ (g cap : Nat), v = .slice (some ⟨g, 0, none⟩) 4 cap ∧ g < w.heap.size ∧
    w.cell? ⟨g, 0, none⟩ = some (.int .i64 x0) ∧ w.cell? ⟨g, 1, none⟩ = some (.int .i64 x1) ∧ w.cell? ⟨g, 2, none⟩ = some (.int .i64 x2) ∧ w.cell? ⟨g, 3, none⟩ = some (.int .i64 x3) := by
  rcases h.forms with ⟨h0, _⟩ | ⟨_, g, cap, rfl, _, hg, _⟩
  · cases h0
  · exact ⟨g, cap, rfl, hg, RowI.at h 0 (by simp), RowI.at h 1 (by simp), RowI.at h 2 (by simp), RowI.at h 3 (by simp)⟩
theorem RowI.nil2 {w : World} {B : Nat} {v : Value} (h : RowI w B v []) : ∃ a cap, v = .slice a 0 cap := by
  rcases h.forms with ⟨_, a, cap, hv⟩ | ⟨hx, _⟩
  · exact ⟨a, cap, hv⟩
  · simp at hx
theorem xor_diff {x y : Int} (hx : x = 0 ∨ x = 1) (hy : y = 0 ∨ y = 1) : bits BinOp.xor IntKind.i64 x y = diff2 x y := by
  rcases hx with rfl | rfl <;> rcases hy with rfl | rfl <;> rfl
theorem bin_row (w : World) (B : Nat) (hb : B ≤ w.heap.size) (x0 x1 x2 x3 : Int) (n : Nat) (hn : n = w.heap.size) : RowI (w.alloc (.cells #[.int .i64 x0, .int .i64 x1, .int .i64 x2, .int .i64 x3] 3)) B (.slice (some ⟨n, 0, none⟩) 4 4) [x0, x1, x2, x3] := by
  subst hn
  exact ⟨by simp, .inr ⟨w.heap.size, 4, #[.int .i64 x0, .int .i64 x1, .int .i64 x2, .int .i64 x3], rfl, hb, heap_alloc_new w _, by simp, by decide, rfl, by simp⟩⟩

theorem KeyOf_no (a h s q : Int) (hq : q < 2 ^ 63) (h1 : pOk a h s q = false) (w : World) :
    Calls Try.prog 47 #[.agg #[.int .i64 a, .int .i64 h, .int .i64 s], .int .i64 q] w (RetI w []) := by
  have hc := ClassOf_any a h s q hq
  rw [classL_no h1] at hc
  have HC := Lib.hid hc
  clear hc
  go_enter Try.func47, Try.ntmps47
  go_wp2_with fail
  refine (HC.out _).mono ?_
  rintro e w1 hr
  obtain ⟨v, rfl, hr1, hB1⟩ := hr
  obtain ⟨pa, cap, rfl⟩ := RowI.nil2 hr1
  go_wp2
  go_ret
  exact ⟨_, rfl, ⟨rfl, .inl ⟨rfl, rfl⟩⟩, (below1 _ _).andThen hB1⟩

set_option maxHeartbeats 800000 in
theorem KeyOf_yes (a h s q : Int) (hq : q < 2 ^ 63) (h1 : pOk a h s q = true) (w : World) :
    Calls Try.prog 47 #[.agg #[.int .i64 a, .int .i64 h, .int .i64 s], .int .i64 q] w (RetI w (keyL a h s q)) := by
  have hc := ClassOf_any a h s q hq
  have hbin := classL_bin h1
  rw [keyL_yes h1]
  generalize classL a h s q = c at hc hbin
  have HC := Lib.hid hc
  clear hc
  go_enter Try.func47, Try.ntmps47
  go_wp2_with fail
  refine (HC.out _).mono ?_
  rintro e w1 hr
  obtain ⟨v, rfl, hr1, hB1⟩ := hr
  obtain ⟨g, cap, x0, x1, x2, x3, x4, x5, rfl, rfl, y0, y1, y2, y3, y4, y5, e0, e1, e2, e3, e4, e5⟩ := six_at hr1 hbin
  have hbb := Lib.hid ((below1 _ _).andThen hB1)
  have d0 := xor_diff y0 y1
  have d1 := xor_diff y1 y2
  have d2 := xor_diff y3 y4
  have d3 := xor_diff y4 y5
  have hsz := hB1.size
  simp at hsz
  clear hbin hr1 hB1 HC y0 y1 y2 y3 y4 y5
  go_wp2_with fail
  go_still_tail 28, (by kernel_rfl)
  change wpList _ _ _ _ _ w1.drew
  go_wp2_with fail
  go_ret
  exact ⟨_, rfl, bin_row w1.drew _ (by simp; omega) _ _ _ _ _ rfl, (hbb.out.andThen (Below.drew (Below.refl _ _))).more _⟩

theorem held6 {w w' : World} {g : Nat} {x0 x1 x2 x3 x4 x5 : Value} (h : w'.cell? ⟨g, 0, none⟩ = some x0 ∧ w'.cell? ⟨g, 1, none⟩ = some x1 ∧ w'.cell? ⟨g, 2, none⟩ = some x2 ∧ w'.cell? ⟨g, 3, none⟩ = some x3 ∧ w'.cell? ⟨g, 4, none⟩ = some x4 ∧ w'.cell? ⟨g, 5, none⟩ = some x5 ∧ Below w.heap.size w w') (ob : Obj) :
    (w'.alloc ob).cell? ⟨g, 0, none⟩ = some x0 ∧ (w'.alloc ob).cell? ⟨g, 1, none⟩ = some x1 ∧ (w'.alloc ob).cell? ⟨g, 2, none⟩ = some x2 ∧ (w'.alloc ob).cell? ⟨g, 3, none⟩ = some x3 ∧ (w'.alloc ob).cell? ⟨g, 4, none⟩ = some x4 ∧ (w'.alloc ob).cell? ⟨g, 5, none⟩ = some x5 ∧ Below w.heap.size w (w'.alloc ob) := by
  obtain ⟨h0, h1, h2, h3, h4, h5, h6⟩ := h
  exact ⟨cell_keptA h0 (below1 _ _), cell_keptA h1 (below1 _ _), cell_keptA h2 (below1 _ _), cell_keptA h3 (below1 _ _), cell_keptA h4 (below1 _ _), cell_keptA h5 (below1 _ _), h6.more _⟩

theorem KeyOf_any (a h s q : Int) (hq : q < 2 ^ 63) (w : World) :
    Calls Try.prog 47 #[.agg #[.int .i64 a, .int .i64 h, .int .i64 s], .int .i64 q] w (RetI w (keyL a h s q)) := by
  cases h1 : pOk a h s q
  · rw [keyL_no h1]; exact KeyOf_no a h s q hq h1 w
  · exact KeyOf_yes a h s q hq h1 w

theorem KeyNumber_no (a h s q : Int) (hq : q < 2 ^ 63) (h1 : pOk a h s q = false) (w : World) :
    Calls Try.prog 51 #[.agg #[.int .i64 a, .int .i64 h, .int .i64 s], .int .i64 q] w fun e w' => e = .returned (.int .i64 (-1)) ∧ Below w.heap.size w w' := by
  have hc := KeyOf_any a h s q hq
  rw [keyL_no h1] at hc
  have HC := Lib.hid hc
  clear hc
  go_enter Try.func51, Try.ntmps51
  go_wp2_with fail
  refine (HC.out _).mono ?_
  rintro e w1 hr
  obtain ⟨v, rfl, hr1, hB1⟩ := hr
  obtain ⟨pa, cap, rfl⟩ := RowI.nil2 hr1
  go_wp2
  go_ret
  exact ⟨rfl, (below1 _ _).andThen hB1⟩

set_option maxHeartbeats 800000 in
theorem KeyNumber_yes (a h s q : Int) (hq : q < 2 ^ 63) (h1 : pOk a h s q = true) (w : World) :
    Calls Try.prog 51 #[.agg #[.int .i64 a, .int .i64 h, .int .i64 s], .int .i64 q] w fun e w' => e = .returned (.int .i64 (keyNum (keyL a h s q))) ∧ Below w.heap.size w w' := by
  have hc := KeyOf_any a h s q hq
  obtain ⟨x, y, z, u, e0, hx, hy, hz, hu⟩ := keyL_bin h1
  rw [e0] at hc ⊢
  have HC := Lib.hid hc
  clear hc e0
  go_enter Try.func51, Try.ntmps51
  go_wp2_with fail
  refine (HC.out _).mono ?_
  rintro e w1 hr
  obtain ⟨v, rfl, hr1, hB1⟩ := hr
  obtain ⟨g, cap, rfl, hg, e0, e1, e2, e3⟩ := four_at hr1
  have hbb := Lib.hid ((below1 _ _).andThen hB1)
  clear hr1 hB1
  go_wp2_with fail
  go_quiet (fail)
  go_wp2
  go_ret
  have hw : wrap64 (wrap64 (wrap64 (x + wrap64 (2 * y)) + wrap64 (4 * z)) + wrap64 (8 * u)) = x + 2 * y + 4 * z + 8 * u := by unfold wrap64; omega
  exact ⟨by first | rfl | (rw [show keyNum [x, y, z, u] = x + 2 * y + 4 * z + 8 * u from rfl, ← hw]; rfl), hbb.out.andThen (Joins.below_draws _ _ _)⟩

theorem KeyNumber_any (a h s q : Int) (hq : q < 2 ^ 63) (w : World) :
    Calls Try.prog 51 #[.agg #[.int .i64 a, .int .i64 h, .int .i64 s], .int .i64 q] w fun e w' => e = .returned (.int .i64 (keyN a h s q)) ∧ Below w.heap.size w w' := by
  unfold keyN
  cases h1 : pOk a h s q
  · exact KeyNumber_no a h s q hq h1 w
  · exact KeyNumber_yes a h s q hq h1 w

open Go.RowKit
open Peg
set_option linter.unusedVariables false

theorem held3B {w w' w1 : World} {n : Nat} {a b c : Value} (h : w'.cell? ⟨n, 0, none⟩ = some a ∧ w'.cell? ⟨n, 1, none⟩ = some b ∧ w'.cell? ⟨n, 2, none⟩ = some c ∧ Below w.heap.size w w') (hb : Below w'.heap.size w' w1) :
    w1.cell? ⟨n, 0, none⟩ = some a ∧ w1.cell? ⟨n, 1, none⟩ = some b ∧ w1.cell? ⟨n, 2, none⟩ = some c ∧ Below w.heap.size w w1 := by
  obtain ⟨h0, h1, h2, h3⟩ := h
  exact ⟨cell_keptA h0 hb, cell_keptA h1 hb, cell_keptA h2 hb, h3.andThen hb⟩

set_option maxHeartbeats 400000 in
theorem sameInts_pos (b : Bool) (g g' cap cap' : Nat) (xs ys : List Int) (w : World) (hn : xs.length ≤ 1152921504606846976) (hl : ys.length = xs.length) (hb : (xs == ys) = b) (h1 : ∀ j, j < xs.length → w.cell? ⟨g, j, none⟩ = some (.int .i64 (xs[j]?.getD 0))) (h2 : ∀ j, j < xs.length → w.cell? ⟨g', j, none⟩ = some (.int .i64 (ys[j]?.getD 0))) :
    Calls Try.prog 81 #[.slice (some ⟨g, 0, none⟩) xs.length cap, .slice (some ⟨g', 0, none⟩) xs.length cap'] w fun e w' => e = .returned (.bool b) ∧ Below w.heap.size w w' := by
  have H1 := Lib.hid h1
  have H2 := Lib.hid h2
  have HB := Lib.hid hb
  have HL := Lib.hid hl
  clear h1 h2 hb hl
  go_enter Try.func81, Try.ntmps81
  go_wp2_with fail
  go_loopw [14] (fun i wr => ∃ k m : Nat, k ≤ xs.length ∧ i = .int .i64 k ∧ wr = w.drewN m ∧ ∀ j, j < k → xs[j]? = ys[j]?) (fun i _ => xs.length - (intOf i).toNat)
  case atStart => exact ⟨0, 0, by omega, rfl, rfl, fun j hj => by omega⟩
  case round =>
    obtain ⟨k, m, hk, rfl, rfl, hpre⟩ := hrel
    have HP := Lib.hid hpre
    clear hpre
    by_cases hlt : ¬ k < xs.length
    · have hge : k = xs.length := by omega
      go_wp2
      go_ret
      have e : xs = ys := by
        apply List.ext_getElem?
        intro j
        by_cases hj : j < k
        · exact HP.out j hj
        · rw [List.getElem?_eq_none (by omega), List.getElem?_eq_none (by rw [HL.out]; omega)]
      have hb := HB.out
      rw [e] at hb
      simp at hb
      subst hb
      exact ⟨rfl, Joins.below_draws _ _ _⟩
    have hlt : k < xs.length := by omega
    have c1 := H1.out k hlt
    have c2 := H2.out k hlt
    have hI0 : (0 : Int) ≤ (k : Int) := by omega
    have hI1 : (k : Int) < (xs.length : Int) := by omega
    obtain ⟨x, hx⟩ : ∃ x, xs[k]?.getD 0 = x := ⟨_, rfl⟩
    obtain ⟨y, hy⟩ : ∃ y, ys[k]?.getD 0 = y := ⟨_, rfl⟩
    rw [hx] at c1
    rw [hy] at c2
    have Hx := Lib.hid hx
    have Hy := Lib.hid hy
    clear hx hy
    by_cases hxy : x = y
    · have q1 : (x != y) = false := by simp [hxy]
      go_wp2
      go_roundw
      case rel =>
        refine ⟨k + 1, _, by omega, by go_num, rfl, fun j hj => ?_⟩
        by_cases hjk : j < k
        · exact HP.out j hjk
        · have hje : j = k := by omega
          have hlk : k < ys.length := by rw [HL.out]; exact hlt
          have h1 := Hx.out
          have h2 := Hy.out
          rw [List.getElem?_eq_getElem hlt] at h1
          rw [List.getElem?_eq_getElem hlk] at h2
          rw [hje, List.getElem?_eq_getElem hlt, List.getElem?_eq_getElem hlk]
          simp at h1 h2
          rw [h1, h2, hxy]
      case measure => simp [intOf]; omega
    · have q1 : (x != y) = true := by simp [hxy]
      go_wp2
      go_ret
      have e : (xs == ys) = false := by
        apply Bool.eq_false_iff.2
        intro he
        have he2 : xs = ys := by simpa using he
        apply hxy
        rw [← Hx.out, ← Hy.out, he2]
      rw [HB.out] at e
      subst e
      exact ⟨rfl, (Joins.below_draws _ _ _)⟩

theorem sameInts_b (b : Bool) (xs ys : List Int) (u v : Value) (B C : Nat) (w : World) (h1 : RowI w B u xs) (h2 : RowI w C v ys) (hp : 0 < xs.length) (hl : ys.length = xs.length) (hb : (xs == ys) = b) (hs : xs.length ≤ 1152921504606846976) :
    Calls Try.prog 81 #[u, v] w fun e w' => e = .returned (.bool b) ∧ Below w.heap.size w w' := by
  rcases h1.forms with ⟨rfl, _⟩ | ⟨hx, g, c, rfl, _⟩
  · simp at hp
  · rcases h2.forms with ⟨rfl, _⟩ | ⟨_, g', d, rfl, _⟩
    · simp at hl; omega
    · have := sameInts_pos b g g' c d xs ys w hs hl hb (fun j hj => h1.at j hj) (fun j hj => h2.at j (by omega))
      rw [hl]
      exact this

set_option maxHeartbeats 800000 in
theorem SameKey_1 (a h s q r : Int) (hq : q < 2 ^ 63) (hr : r < 2 ^ 63) (h1 : pOk a h s q = false) (w : World) :
    Calls Try.prog 50 #[.agg #[.int .i64 a, .int .i64 h, .int .i64 s], .int .i64 q, .int .i64 r] w fun e w' => e = .returned (.bool false) ∧ Below w.heap.size w w' := by
  go_enter Try.func50, Try.ntmps50
  have X0 := BoxAt.new w a h s 26
  obtain ⟨b0, b1, b2, bz⟩ := X0
  clear bz
  have hB0 := below1 w (.cells #[.int .i64 a, .int .i64 h, .int .i64 s] 26)
  go_wp2_with fail
  refine wp_region_held_drew (S := (fun w' : World => w'.cell? ⟨w.heap.size, 0, none⟩ = some (.int .i64 a) ∧ w'.cell? ⟨w.heap.size, 1, none⟩ = some (.int .i64 h) ∧ w'.cell? ⟨w.heap.size, 2, none⟩ = some (.int .i64 s) ∧ Below w.heap.size w w')) (by kernel_rfl) ⟨b0, b1, b2, hB0.drew⟩ (fun hHeld => ?_)
  refine takeE (i := 0) (d := some 7) (v := .agg #[.int .i64 a, .int .i64 h, .int .i64 s]) rfl (by kernel_rfl) (by kernel_rfl) (by kernel_rfl) rfl (fun _ _ _ h => h) (Or.inl ⟨by kernel_rfl, fun w1 hS1 => by (try dsimp only at hS1); go_simp⟩) hHeld ?_
  simp only [Act.put, List.setIfInBounds_toArray, List.set_cons_zero, List.set_cons_succ]
  refine takeE (i := 1) (d := some 8) (v := .int .i64 q) rfl (by kernel_rfl) (by kernel_rfl) (by kernel_rfl) rfl (fun _ _ _ h => h) (Or.inl ⟨by kernel_rfl, fun w1 hS1 => by rfl⟩) hHeld ?_
  simp only [Act.put, List.setIfInBounds_toArray, List.set_cons_zero, List.set_cons_succ]
  refine wpAnyH_ready (rs := [2]) (by kernel_rfl) (by simp) ?_
  refine AllReadyH.cons rfl (fun K hK => ?_) AllReadyH.nil
  go_simp
  go_at_call 34
  refine (PositionOk_b false _ _ _ _ hq h1 _).mono ?_
  rintro e wx ⟨rfl, hBx⟩
  (try go_simp)
  refine hK.out _ _ (held3B hHeld hBx) (fun hHeld2 => ?_)
  clear hK K hHeld
  have hHeld := hHeld2
  clear hHeld2
  (try simp only [Act.put, List.setIfInBounds_toArray, List.set_cons_zero, List.set_cons_succ])
  refine takeE (i := 3) (d := some 10) (v := .bool false) rfl (by kernel_rfl) (by kernel_rfl) (by kernel_rfl) rfl (fun _ _ _ h => h) (Or.inl ⟨by kernel_rfl, fun w1 hS1 => by rfl⟩) hHeld ?_
  simp only [Act.put, List.setIfInBounds_toArray, List.set_cons_zero, List.set_cons_succ]
  refine takeE (i := 4) (d := some 11) (v := undef) rfl (by kernel_rfl) (by kernel_rfl) (by kernel_rfl) rfl (fun _ _ _ h => h) (Or.inr ⟨by kernel_rfl, rfl⟩) hHeld ?_
  simp only [Act.put, List.setIfInBounds_toArray, List.set_cons_zero, List.set_cons_succ]
  refine takeE (i := 5) (d := some 12) (v := undef) rfl (by kernel_rfl) (by kernel_rfl) (by kernel_rfl) rfl (fun _ _ _ h => h) (Or.inr ⟨by kernel_rfl, rfl⟩) hHeld ?_
  simp only [Act.put, List.setIfInBounds_toArray, List.set_cons_zero, List.set_cons_succ]
  refine takeE (i := 6) (d := some 13) (v := undef) rfl (by kernel_rfl) (by kernel_rfl) (by kernel_rfl) rfl (fun _ _ _ h => h) (Or.inr ⟨by kernel_rfl, rfl⟩) hHeld ?_
  simp only [Act.put, List.setIfInBounds_toArray, List.set_cons_zero, List.set_cons_succ]
  refine takeE (i := 7) (d := some 14) (v := .bool false) rfl (by kernel_rfl) (by kernel_rfl) (by kernel_rfl) rfl (fun _ _ _ h => h) (Or.inl ⟨by kernel_rfl, fun w1 hS1 => by rfl⟩) hHeld ?_
  simp only [Act.put, List.setIfInBounds_toArray, List.set_cons_zero, List.set_cons_succ]
  refine takeE (i := 8) (d := some 15) (v := .bool false) rfl (by kernel_rfl) (by kernel_rfl) (by kernel_rfl) rfl (fun _ _ _ h => h) (Or.inl ⟨by kernel_rfl, fun w1 hS1 => by rfl⟩) hHeld ?_
  simp only [Act.put, List.setIfInBounds_toArray, List.set_cons_zero, List.set_cons_succ]
  refine takeE (i := 9) (d := some 16) (v := undef) rfl (by kernel_rfl) (by kernel_rfl) (by kernel_rfl) rfl (fun _ _ _ h => h) (Or.inr ⟨by kernel_rfl, rfl⟩) hHeld ?_
  simp only [Act.put, List.setIfInBounds_toArray, List.set_cons_zero, List.set_cons_succ]
  refine takeE (i := 10) (d := some 17) (v := undef) rfl (by kernel_rfl) (by kernel_rfl) (by kernel_rfl) rfl (fun _ _ _ h => h) (Or.inr ⟨by kernel_rfl, rfl⟩) hHeld ?_
  simp only [Act.put, List.setIfInBounds_toArray, List.set_cons_zero, List.set_cons_succ]
  refine takeE (i := 11) (d := some 18) (v := undef) rfl (by kernel_rfl) (by kernel_rfl) (by kernel_rfl) rfl (fun _ _ _ h => h) (Or.inr ⟨by kernel_rfl, rfl⟩) hHeld ?_
  simp only [Act.put, List.setIfInBounds_toArray, List.set_cons_zero, List.set_cons_succ]
  refine takeE (i := 12) (d := some 19) (v := undef) rfl (by kernel_rfl) (by kernel_rfl) (by kernel_rfl) rfl (fun _ _ _ h => h) (Or.inr ⟨by kernel_rfl, rfl⟩) hHeld ?_
  simp only [Act.put, List.setIfInBounds_toArray, List.set_cons_zero, List.set_cons_succ]
  refine takeE (i := 13) (d := some 20) (v := undef) rfl (by kernel_rfl) (by kernel_rfl) (by kernel_rfl) rfl (fun _ _ _ h => h) (Or.inr ⟨by kernel_rfl, rfl⟩) hHeld ?_
  simp only [Act.put, List.setIfInBounds_toArray, List.set_cons_zero, List.set_cons_succ]
  refine takeE (i := 14) (d := some 21) (v := undef) rfl (by kernel_rfl) (by kernel_rfl) (by kernel_rfl) rfl (fun _ _ _ h => h) (Or.inr ⟨by kernel_rfl, rfl⟩) hHeld ?_
  simp only [Act.put, List.setIfInBounds_toArray, List.set_cons_zero, List.set_cons_succ]
  refine takeE (i := 15) (d := some 22) (v := undef) rfl (by kernel_rfl) (by kernel_rfl) (by kernel_rfl) rfl (fun _ _ _ h => h) (Or.inr ⟨by kernel_rfl, rfl⟩) hHeld ?_
  simp only [Act.put, List.setIfInBounds_toArray, List.set_cons_zero, List.set_cons_succ]
  refine takeE (i := 16) (d := some 23) (v := .bool false) rfl (by kernel_rfl) (by kernel_rfl) (by kernel_rfl) rfl (fun _ _ _ h => h) (Or.inl ⟨by kernel_rfl, fun w1 hS1 => by rfl⟩) hHeld ?_
  simp only [Act.put, List.setIfInBounds_toArray, List.set_cons_zero, List.set_cons_succ]
  refine takeE (i := 17) (d := some 6) (v := .bool false) rfl (by kernel_rfl) (by kernel_rfl) (by kernel_rfl) rfl (fun _ _ _ h => h) (Or.inl ⟨by kernel_rfl, fun w1 hS1 => by rfl⟩) hHeld ?_
  simp only [Act.put, List.setIfInBounds_toArray, List.set_cons_zero, List.set_cons_succ]
  refine wpAnyH_done (by kernel_rfl) ?_ _
  go_wp2
  go_ret
  exact ⟨rfl, hHeld.2.2.2⟩

set_option maxHeartbeats 800000 in
theorem SameKey_2 (a h s q r : Int) (hq : q < 2 ^ 63) (hr : r < 2 ^ 63) (h1 : pOk a h s q = true) (h2 : pOk a h s r = false) (w : World) :
    Calls Try.prog 50 #[.agg #[.int .i64 a, .int .i64 h, .int .i64 s], .int .i64 q, .int .i64 r] w fun e w' => e = .returned (.bool false) ∧ Below w.heap.size w w' := by
  go_enter Try.func50, Try.ntmps50
  have X0 := BoxAt.new w a h s 26
  obtain ⟨b0, b1, b2, bz⟩ := X0
  clear bz
  have hB0 := below1 w (.cells #[.int .i64 a, .int .i64 h, .int .i64 s] 26)
  go_wp2_with fail
  refine wp_region_held_drew (S := (fun w' : World => w'.cell? ⟨w.heap.size, 0, none⟩ = some (.int .i64 a) ∧ w'.cell? ⟨w.heap.size, 1, none⟩ = some (.int .i64 h) ∧ w'.cell? ⟨w.heap.size, 2, none⟩ = some (.int .i64 s) ∧ Below w.heap.size w w')) (by kernel_rfl) ⟨b0, b1, b2, hB0.drew⟩ (fun hHeld => ?_)
  refine takeE (i := 0) (d := some 7) (v := .agg #[.int .i64 a, .int .i64 h, .int .i64 s]) rfl (by kernel_rfl) (by kernel_rfl) (by kernel_rfl) rfl (fun _ _ _ h => h) (Or.inl ⟨by kernel_rfl, fun w1 hS1 => by (try dsimp only at hS1); go_simp⟩) hHeld ?_
  simp only [Act.put, List.setIfInBounds_toArray, List.set_cons_zero, List.set_cons_succ]
  refine takeE (i := 1) (d := some 8) (v := .int .i64 q) rfl (by kernel_rfl) (by kernel_rfl) (by kernel_rfl) rfl (fun _ _ _ h => h) (Or.inl ⟨by kernel_rfl, fun w1 hS1 => by rfl⟩) hHeld ?_
  simp only [Act.put, List.setIfInBounds_toArray, List.set_cons_zero, List.set_cons_succ]
  refine wpAnyH_ready (rs := [2]) (by kernel_rfl) (by simp) ?_
  refine AllReadyH.cons rfl (fun K hK => ?_) AllReadyH.nil
  go_simp
  go_at_call 34
  refine (PositionOk_b true _ _ _ _ hq h1 _).mono ?_
  rintro e wx ⟨rfl, hBx⟩
  (try go_simp)
  refine hK.out _ _ (held3B hHeld hBx) (fun hHeld2 => ?_)
  clear hK K hHeld
  have hHeld := hHeld2
  clear hHeld2
  (try simp only [Act.put, List.setIfInBounds_toArray, List.set_cons_zero, List.set_cons_succ])
  refine takeE (i := 3) (d := some 10) (v := .bool true) rfl (by kernel_rfl) (by kernel_rfl) (by kernel_rfl) rfl (fun _ _ _ h => h) (Or.inl ⟨by kernel_rfl, fun w1 hS1 => by rfl⟩) hHeld ?_
  simp only [Act.put, List.setIfInBounds_toArray, List.set_cons_zero, List.set_cons_succ]
  refine takeE (i := 4) (d := some 11) (v := .agg #[.int .i64 a, .int .i64 h, .int .i64 s]) rfl (by kernel_rfl) (by kernel_rfl) (by kernel_rfl) rfl (fun _ _ _ h => h) (Or.inl ⟨by kernel_rfl, fun w1 hS1 => by (try dsimp only at hS1); go_simp⟩) hHeld ?_
  simp only [Act.put, List.setIfInBounds_toArray, List.set_cons_zero, List.set_cons_succ]
  refine takeE (i := 5) (d := some 12) (v := .int .i64 r) rfl (by kernel_rfl) (by kernel_rfl) (by kernel_rfl) rfl (fun _ _ _ h => h) (Or.inl ⟨by kernel_rfl, fun w1 hS1 => by rfl⟩) hHeld ?_
  simp only [Act.put, List.setIfInBounds_toArray, List.set_cons_zero, List.set_cons_succ]
  refine wpAnyH_ready (rs := [6]) (by kernel_rfl) (by simp) ?_
  refine AllReadyH.cons rfl (fun K hK => ?_) AllReadyH.nil
  go_simp
  go_at_call 34
  refine (PositionOk_b false _ _ _ _ hr h2 _).mono ?_
  rintro e wx ⟨rfl, hBx⟩
  (try go_simp)
  refine hK.out _ _ (held3B hHeld hBx) (fun hHeld2 => ?_)
  clear hK K hHeld
  have hHeld := hHeld2
  clear hHeld2
  (try simp only [Act.put, List.setIfInBounds_toArray, List.set_cons_zero, List.set_cons_succ])
  refine takeE (i := 7) (d := some 14) (v := .bool false) rfl (by kernel_rfl) (by kernel_rfl) (by kernel_rfl) rfl (fun _ _ _ h => h) (Or.inl ⟨by kernel_rfl, fun w1 hS1 => by rfl⟩) hHeld ?_
  simp only [Act.put, List.setIfInBounds_toArray, List.set_cons_zero, List.set_cons_succ]
  refine takeE (i := 8) (d := some 15) (v := .bool false) rfl (by kernel_rfl) (by kernel_rfl) (by kernel_rfl) rfl (fun _ _ _ h => h) (Or.inl ⟨by kernel_rfl, fun w1 hS1 => by rfl⟩) hHeld ?_
  simp only [Act.put, List.setIfInBounds_toArray, List.set_cons_zero, List.set_cons_succ]
  refine takeE (i := 9) (d := some 16) (v := undef) rfl (by kernel_rfl) (by kernel_rfl) (by kernel_rfl) rfl (fun _ _ _ h => h) (Or.inr ⟨by kernel_rfl, rfl⟩) hHeld ?_
  simp only [Act.put, List.setIfInBounds_toArray, List.set_cons_zero, List.set_cons_succ]
  refine takeE (i := 10) (d := some 17) (v := undef) rfl (by kernel_rfl) (by kernel_rfl) (by kernel_rfl) rfl (fun _ _ _ h => h) (Or.inr ⟨by kernel_rfl, rfl⟩) hHeld ?_
  simp only [Act.put, List.setIfInBounds_toArray, List.set_cons_zero, List.set_cons_succ]
  refine takeE (i := 11) (d := some 18) (v := undef) rfl (by kernel_rfl) (by kernel_rfl) (by kernel_rfl) rfl (fun _ _ _ h => h) (Or.inr ⟨by kernel_rfl, rfl⟩) hHeld ?_
  simp only [Act.put, List.setIfInBounds_toArray, List.set_cons_zero, List.set_cons_succ]
  refine takeE (i := 12) (d := some 19) (v := undef) rfl (by kernel_rfl) (by kernel_rfl) (by kernel_rfl) rfl (fun _ _ _ h => h) (Or.inr ⟨by kernel_rfl, rfl⟩) hHeld ?_
  simp only [Act.put, List.setIfInBounds_toArray, List.set_cons_zero, List.set_cons_succ]
  refine takeE (i := 13) (d := some 20) (v := undef) rfl (by kernel_rfl) (by kernel_rfl) (by kernel_rfl) rfl (fun _ _ _ h => h) (Or.inr ⟨by kernel_rfl, rfl⟩) hHeld ?_
  simp only [Act.put, List.setIfInBounds_toArray, List.set_cons_zero, List.set_cons_succ]
  refine takeE (i := 14) (d := some 21) (v := undef) rfl (by kernel_rfl) (by kernel_rfl) (by kernel_rfl) rfl (fun _ _ _ h => h) (Or.inr ⟨by kernel_rfl, rfl⟩) hHeld ?_
  simp only [Act.put, List.setIfInBounds_toArray, List.set_cons_zero, List.set_cons_succ]
  refine takeE (i := 15) (d := some 22) (v := undef) rfl (by kernel_rfl) (by kernel_rfl) (by kernel_rfl) rfl (fun _ _ _ h => h) (Or.inr ⟨by kernel_rfl, rfl⟩) hHeld ?_
  simp only [Act.put, List.setIfInBounds_toArray, List.set_cons_zero, List.set_cons_succ]
  refine takeE (i := 16) (d := some 23) (v := .bool false) rfl (by kernel_rfl) (by kernel_rfl) (by kernel_rfl) rfl (fun _ _ _ h => h) (Or.inl ⟨by kernel_rfl, fun w1 hS1 => by rfl⟩) hHeld ?_
  simp only [Act.put, List.setIfInBounds_toArray, List.set_cons_zero, List.set_cons_succ]
  refine takeE (i := 17) (d := some 6) (v := .bool false) rfl (by kernel_rfl) (by kernel_rfl) (by kernel_rfl) rfl (fun _ _ _ h => h) (Or.inl ⟨by kernel_rfl, fun w1 hS1 => by rfl⟩) hHeld ?_
  simp only [Act.put, List.setIfInBounds_toArray, List.set_cons_zero, List.set_cons_succ]
  refine wpAnyH_done (by kernel_rfl) ?_ _
  go_wp2
  go_ret
  exact ⟨rfl, hHeld.2.2.2⟩

set_option maxHeartbeats 800000 in
theorem SameKey_3 (a h s q r : Int) (hq : q < 2 ^ 63) (hr : r < 2 ^ 63) (h1 : pOk a h s q = true) (h2 : pOk a h s r = true) (b : Bool) (hb : (keyL a h s q == keyL a h s r) = b) (w : World) :
    Calls Try.prog 50 #[.agg #[.int .i64 a, .int .i64 h, .int .i64 s], .int .i64 q, .int .i64 r] w fun e w' => e = .returned (.bool b) ∧ Below w.heap.size w w' := by
  have hk1 := KeyOf_any a h s q hq
  have hk2 := KeyOf_any a h s r hr
  obtain ⟨x0, x1, x2, x3, ex, _⟩ := keyL_bin h1
  obtain ⟨y0, y1, y2, y3, ey, _⟩ := keyL_bin h2
  rw [ex] at hk1 hb
  rw [ey] at hk2 hb
  have HK1 := Lib.hid hk1
  have HK2 := Lib.hid hk2
  have HB := Lib.hid hb
  clear hk1 hk2 hb ex ey
  go_enter Try.func50, Try.ntmps50
  have X0 := BoxAt.new w a h s 26
  obtain ⟨b0, b1, b2, bz⟩ := X0
  clear bz
  have hB0 := below1 w (.cells #[.int .i64 a, .int .i64 h, .int .i64 s] 26)
  go_wp2_with fail
  refine wp_region_held_drew (S := (fun w' : World => w'.cell? ⟨w.heap.size, 0, none⟩ = some (.int .i64 a) ∧ w'.cell? ⟨w.heap.size, 1, none⟩ = some (.int .i64 h) ∧ w'.cell? ⟨w.heap.size, 2, none⟩ = some (.int .i64 s) ∧ Below w.heap.size w w')) (by kernel_rfl) ⟨b0, b1, b2, hB0.drew⟩ (fun hHeld => ?_)
  refine takeE (i := 0) (d := some 7) (v := .agg #[.int .i64 a, .int .i64 h, .int .i64 s]) rfl (by kernel_rfl) (by kernel_rfl) (by kernel_rfl) rfl (fun _ _ _ h => h) (Or.inl ⟨by kernel_rfl, fun w1 hS1 => by (try dsimp only at hS1); go_simp⟩) hHeld ?_
  simp only [Act.put, List.setIfInBounds_toArray, List.set_cons_zero, List.set_cons_succ]
  refine takeE (i := 1) (d := some 8) (v := .int .i64 q) rfl (by kernel_rfl) (by kernel_rfl) (by kernel_rfl) rfl (fun _ _ _ h => h) (Or.inl ⟨by kernel_rfl, fun w1 hS1 => by rfl⟩) hHeld ?_
  simp only [Act.put, List.setIfInBounds_toArray, List.set_cons_zero, List.set_cons_succ]
  refine wpAnyH_ready (rs := [2]) (by kernel_rfl) (by simp) ?_
  refine AllReadyH.cons rfl (fun K hK => ?_) AllReadyH.nil
  go_simp
  go_at_call 34
  refine (PositionOk_b true _ _ _ _ hq h1 _).mono ?_
  rintro e wx ⟨rfl, hBx⟩
  (try go_simp)
  refine hK.out _ _ (held3B hHeld hBx) (fun hHeld2 => ?_)
  clear hK K hHeld
  have hHeld := hHeld2
  clear hHeld2
  (try simp only [Act.put, List.setIfInBounds_toArray, List.set_cons_zero, List.set_cons_succ])
  refine takeE (i := 3) (d := some 10) (v := .bool true) rfl (by kernel_rfl) (by kernel_rfl) (by kernel_rfl) rfl (fun _ _ _ h => h) (Or.inl ⟨by kernel_rfl, fun w1 hS1 => by rfl⟩) hHeld ?_
  simp only [Act.put, List.setIfInBounds_toArray, List.set_cons_zero, List.set_cons_succ]
  refine takeE (i := 4) (d := some 11) (v := .agg #[.int .i64 a, .int .i64 h, .int .i64 s]) rfl (by kernel_rfl) (by kernel_rfl) (by kernel_rfl) rfl (fun _ _ _ h => h) (Or.inl ⟨by kernel_rfl, fun w1 hS1 => by (try dsimp only at hS1); go_simp⟩) hHeld ?_
  simp only [Act.put, List.setIfInBounds_toArray, List.set_cons_zero, List.set_cons_succ]
  refine takeE (i := 5) (d := some 12) (v := .int .i64 r) rfl (by kernel_rfl) (by kernel_rfl) (by kernel_rfl) rfl (fun _ _ _ h => h) (Or.inl ⟨by kernel_rfl, fun w1 hS1 => by rfl⟩) hHeld ?_
  simp only [Act.put, List.setIfInBounds_toArray, List.set_cons_zero, List.set_cons_succ]
  refine wpAnyH_ready (rs := [6]) (by kernel_rfl) (by simp) ?_
  refine AllReadyH.cons rfl (fun K hK => ?_) AllReadyH.nil
  go_simp
  go_at_call 34
  refine (PositionOk_b true _ _ _ _ hr h2 _).mono ?_
  rintro e wx ⟨rfl, hBx⟩
  (try go_simp)
  refine hK.out _ _ (held3B hHeld hBx) (fun hHeld2 => ?_)
  clear hK K hHeld
  have hHeld := hHeld2
  clear hHeld2
  (try simp only [Act.put, List.setIfInBounds_toArray, List.set_cons_zero, List.set_cons_succ])
  refine takeE (i := 7) (d := some 14) (v := .bool true) rfl (by kernel_rfl) (by kernel_rfl) (by kernel_rfl) rfl (fun _ _ _ h => h) (Or.inl ⟨by kernel_rfl, fun w1 hS1 => by rfl⟩) hHeld ?_
  simp only [Act.put, List.setIfInBounds_toArray, List.set_cons_zero, List.set_cons_succ]
  refine takeE (i := 8) (d := some 15) (v := .bool true) rfl (by kernel_rfl) (by kernel_rfl) (by kernel_rfl) rfl (fun _ _ _ h => h) (Or.inl ⟨by kernel_rfl, fun w1 hS1 => by rfl⟩) hHeld ?_
  simp only [Act.put, List.setIfInBounds_toArray, List.set_cons_zero, List.set_cons_succ]
  refine takeE (i := 9) (d := some 16) (v := .agg #[.int .i64 a, .int .i64 h, .int .i64 s]) rfl (by kernel_rfl) (by kernel_rfl) (by kernel_rfl) rfl (fun _ _ _ h => h) (Or.inl ⟨by kernel_rfl, fun w1 hS1 => by (try dsimp only at hS1); go_simp⟩) hHeld ?_
  simp only [Act.put, List.setIfInBounds_toArray, List.set_cons_zero, List.set_cons_succ]
  refine takeE (i := 10) (d := some 17) (v := .int .i64 q) rfl (by kernel_rfl) (by kernel_rfl) (by kernel_rfl) rfl (fun _ _ _ h => h) (Or.inl ⟨by kernel_rfl, fun w1 hS1 => by rfl⟩) hHeld ?_
  simp only [Act.put, List.setIfInBounds_toArray, List.set_cons_zero, List.set_cons_succ]
  refine takeE (i := 12) (d := some 19) (v := .agg #[.int .i64 a, .int .i64 h, .int .i64 s]) rfl (by kernel_rfl) (by kernel_rfl) (by kernel_rfl) rfl (fun _ _ _ h => h) (Or.inl ⟨by kernel_rfl, fun w1 hS1 => by (try dsimp only at hS1); go_simp⟩) hHeld ?_
  simp only [Act.put, List.setIfInBounds_toArray, List.set_cons_zero, List.set_cons_succ]
  refine takeE (i := 13) (d := some 20) (v := .int .i64 r) rfl (by kernel_rfl) (by kernel_rfl) (by kernel_rfl) rfl (fun _ _ _ h => h) (Or.inl ⟨by kernel_rfl, fun w1 hS1 => by rfl⟩) hHeld ?_
  simp only [Act.put, List.setIfInBounds_toArray, List.set_cons_zero, List.set_cons_succ]
  refine wpAnyH_ready (rs := [11]) (by kernel_rfl) (by simp) ?_
  refine AllReadyH.cons rfl (fun K hK => ?_) AllReadyH.nil
  go_simp
  go_at_call 47
  refine (HK1.out _).mono ?_
  rintro e wx hr
  obtain ⟨v3, rfl, hr3, hBx⟩ := hr
  (try go_simp)
  refine hK.out _ _ (held3B hHeld hBx) (fun hHeld2 => ?_)
  clear hK K hHeld
  have hHeld := hHeld2
  clear hHeld2
  (try simp only [Act.put, List.setIfInBounds_toArray, List.set_cons_zero, List.set_cons_succ])
  refine wpAnyH_ready (rs := [14]) (by kernel_rfl) (by simp) ?_
  refine AllReadyH.cons rfl (fun K hK => ?_) AllReadyH.nil
  go_simp
  go_at_call 47
  refine (HK2.out _).mono ?_
  rintro e wx hr
  obtain ⟨v4, rfl, hr4, hBx⟩ := hr
  (try go_simp)
  refine hK.out _ _ (held3B hHeld hBx) (fun hHeld2 => ?_)
  clear hK K hHeld
  have hHeld := hHeld2
  clear hHeld2
  have hr3 := hr3.kept hBx
  (try simp only [Act.put, List.setIfInBounds_toArray, List.set_cons_zero, List.set_cons_succ])
  refine wpAnyH_ready (rs := [15]) (by kernel_rfl) (by simp) ?_
  refine AllReadyH.cons rfl (fun K hK => ?_) AllReadyH.nil
  go_simp
  go_at_call 81
  refine (sameInts_b b [x0, x1, x2, x3] [y0, y1, y2, y3] _ _ _ _ _ hr3 hr4 (by simp) rfl HB.out (by simp)).mono ?_
  rintro e wx ⟨rfl, hBx⟩
  (try go_simp)
  refine hK.out _ _ (held3B hHeld hBx) (fun hHeld2 => ?_)
  clear hK K hHeld
  have hHeld := hHeld2
  clear hHeld2
  (try simp only [Act.put, List.setIfInBounds_toArray, List.set_cons_zero, List.set_cons_succ])
  refine takeE (i := 16) (d := some 23) (v := .bool b) rfl (by kernel_rfl) (by kernel_rfl) (by kernel_rfl) rfl (fun _ _ _ h => h) (Or.inl ⟨by kernel_rfl, fun w1 hS1 => by rfl⟩) hHeld ?_
  simp only [Act.put, List.setIfInBounds_toArray, List.set_cons_zero, List.set_cons_succ]
  refine takeE (i := 17) (d := some 6) (v := .bool b) rfl (by kernel_rfl) (by kernel_rfl) (by kernel_rfl) rfl (fun _ _ _ h => h) (Or.inl ⟨by kernel_rfl, fun w1 hS1 => by rfl⟩) hHeld ?_
  simp only [Act.put, List.setIfInBounds_toArray, List.set_cons_zero, List.set_cons_succ]
  refine wpAnyH_done (by kernel_rfl) ?_ _
  go_wp2
  go_ret
  exact ⟨rfl, hHeld.2.2.2⟩

theorem SameKey_b (b : Bool) (a h s q r : Int) (hq : q < 2 ^ 63) (hr : r < 2 ^ 63) (hb : sameK a h s q r = b) (w : World) :
    Calls Try.prog 50 #[.agg #[.int .i64 a, .int .i64 h, .int .i64 s], .int .i64 q, .int .i64 r] w fun e w' => e = .returned (.bool b) ∧ Below w.heap.size w w' := by
  unfold sameK at hb
  cases h1 : pOk a h s q
  · rw [h1] at hb
    have hb2 : false = b := hb
    subst hb2
    exact SameKey_1 a h s q r hq hr h1 w
  · cases h2 : pOk a h s r
    · rw [h1, h2] at hb
      have hb2 : false = b := hb
      subst hb2
      exact SameKey_2 a h s q r hq hr h1 h2 w
    · rw [h1, h2] at hb
      simp only [Bool.true_and] at hb
      exact SameKey_3 a h s q r hq hr h1 h2 b hb w

open Go.RowKit
open Peg
set_option linter.unusedVariables false

theorem held5 {w' w1 ws : World} {n g i b0 B : Nat} {x y z u v : Value} {zs : List Int}
    (h : w'.cell? ⟨n, 0, none⟩ = some x ∧ w'.cell? ⟨n, 1, none⟩ = some y ∧ w'.cell? ⟨n, 2, none⟩ = some z ∧ w'.cell? ⟨g, i, none⟩ = some u ∧ RowI w' B v zs ∧ Acc ws b0 v w') (hb : Below w'.heap.size w' w1) :
    w1.cell? ⟨n, 0, none⟩ = some x ∧ w1.cell? ⟨n, 1, none⟩ = some y ∧ w1.cell? ⟨n, 2, none⟩ = some z ∧ w1.cell? ⟨g, i, none⟩ = some u ∧ RowI w1 B v zs ∧ Acc ws b0 v w1 := by
  obtain ⟨h0, h1, h2, h3, h4, h5⟩ := h
  exact ⟨cell_keptA h0 hb, cell_keptA h1 hb, cell_keptA h2 hb, cell_keptA h3 hb, h4.kept hb, h5.below hb⟩
def siftI (f : Int → Bool) (xs : List Int) (i : Nat) : List Int := (xs.take i).filter f
theorem siftI_zero (f : Int → Bool) (xs : List Int) : siftI f xs 0 = [] := by simp [siftI]
theorem siftI_all {f : Int → Bool} {xs : List Int} {i : Nat} (h : xs.length ≤ i) : siftI f xs i = xs.filter f := by unfold siftI; rw [List.take_of_length_le h]
theorem siftI_in {f : Int → Bool} {xs : List Int} {i : Nat} {l : Int} (h : xs[i]? = some l) (hf : f l = true) : siftI f xs (i + 1) = siftI f xs i ++ [l] := by
  unfold siftI; rw [List.take_add_one, h, List.filter_append]; simp [hf]
theorem siftI_out {f : Int → Bool} {xs : List Int} {i : Nat} {l : Int} (h : xs[i]? = some l) (hf : f l = false) : siftI f xs (i + 1) = siftI f xs i := by
  unfold siftI; rw [List.take_add_one, h, List.filter_append]; simp [hf]
theorem siftI_le (f : Int → Bool) (xs : List Int) (i : Nat) : (siftI f xs i).length ≤ xs.length := Nat.le_trans (List.length_filter_le _ _) (by rw [List.length_take]; omega)
theorem singleF_lt (a h s k : Int) : singleF a h s k < 2 ^ 63 := by
  unfold singleF
  cases h1 : hasB a h s k
  · simp
  · obtain ⟨W, H, S, K, rfl, rfl, rfl, rfl, ok, hK, hb⟩ := has_nat h1
    have := pow48 K hK
    rw [if_pos rfl, Int.toNat_natCast, cast_pow]
    exact_mod_cast this
/-- The holes of a single peg with this key. -/
def finF (a h s q : Int) (k : Int) : Bool := sameK a h s q (singleF a h s k)
def finalL (a h s q : Int) : List Int := (holesL a h s).filter (finF a h s q)
theorem finalL_no {a h s q : Int} (h1 : pOk a h s q = false) : finalL a h s q = [] := by
  unfold finalL
  rw [List.filter_eq_nil_iff]
  intro k _
  unfold finF sameK
  rw [h1]; simp
theorem finalL_len (a h s q : Int) : (finalL a h s q).length ≤ 49 := Nat.le_trans (List.length_filter_le _ _) (holesL_short a h s)

theorem FinalHoles_no (a h s q : Int) (hq : q < 2 ^ 63) (h1 : pOk a h s q = false) (w : World) :
    Calls Try.prog 48 #[.agg #[.int .i64 a, .int .i64 h, .int .i64 s], .int .i64 q] w (RetI w []) := by
  go_enter Try.func48, Try.ntmps48
  go_wp2_with fail
  refine (PositionOk_b _ _ _ _ _ hq h1 _).mono ?_
  rintro e w1 ⟨rfl, hB1⟩
  go_wp2
  go_ret
  exact ⟨_, rfl, ⟨rfl, .inl ⟨rfl, rfl⟩⟩, (below1 _ _).andThen hB1⟩

set_option maxHeartbeats 1600000 in
set_option maxRecDepth 100000 in
theorem FinalHoles_yes (a h s q : Int) (hq : q < 2 ^ 63) (h1 : pOk a h s q = true) (w : World) :
    Calls Try.prog 48 #[.agg #[.int .i64 a, .int .i64 h, .int .i64 s], .int .i64 q] w (RetI w (finalL a h s q)) := by
  obtain ⟨i0, hi, hz0, hz1, hz2⟩ := info_parts info_int
  unfold finalL
  have hsh := holesL_short a h s
  have hho := fun w => HolesOf_any a h s w
  generalize holesL a h s = xs at hsh hho ⊢
  have HH := Lib.hid hho
  obtain ⟨f, hf⟩ : ∃ f : Int → Bool, finF a h s q = f := ⟨_, rfl⟩
  rw [hf]
  have HF := Lib.hid hf
  clear hf hho
  go_enter Try.func48, Try.ntmps48
  have X0 := BoxAt.new w a h s 26
  obtain ⟨b0, b1, b2, bz⟩ := X0
  clear bz
  go_wp2_with fail
  refine (PositionOk_b true _ _ _ _ hq h1 _).mono ?_
  rintro e w1 ⟨rfl, hB1⟩
  replace b0 := cell_keptA (cell_keptA b0 hB1) (below1 _ (.cells #[] 3))
  replace b1 := cell_keptA (cell_keptA b1 hB1) (below1 _ (.cells #[] 3))
  replace b2 := cell_keptA (cell_keptA b2 hB1) (below1 _ (.cells #[] 3))
  have hBel1 := ((below1 w (.cells #[.int .i64 a, .int .i64 h, .int .i64 s] 26)).andThen hB1).more (.cells #[] 3)
  have hsz1 := hB1.size
  simp at hsz1
  have R0 := rowNil w1 w1.heap.size w1.heap.size (Nat.le_refl _) rfl
  obtain ⟨L, hL⟩ : ∃ L, w1.heap.size = L := ⟨_, rfl⟩
  rw [hL] at R0 hsz1
  clear hB1
  go_wp2_with fail
  refine (HH.out _).mono ?_
  rintro e ws hr
  obtain ⟨v, rfl, hr1, hB2⟩ := hr
  have R1 := R0.kept hB2
  replace b0 := Lib.hid (cell_keptA b0 hB2)
  replace b1 := Lib.hid (cell_keptA b1 hB2)
  replace b2 := Lib.hid (cell_keptA b2 hB2)
  have hBel := Lib.hid (hBel1.andThen hB2)
  have hsz2 := hB2.size
  simp at hsz2
  clear hB2 hBel1 R0
  have hLw : w.heap.size < L := by omega
  have hLs : L < ws.heap.size := by omega
  rcases hr1.forms with ⟨rfl, p, cap, rfl⟩ | ⟨hx, g, cap, rfl, hgB, hgs, _⟩
  · go_wp2_with fail
    refine wp_loop_rounds 1 ?_
    rw [rounds_succ]
    go_wp2
    go_ret
    exact ⟨_, rfl, (by first | (subst hL; exact R1.le (by omega)) | (rw [hL]; exact R1.le (by omega))), hBel.out⟩
  · simp at hgB
    have hLg : L < g := by omega
    go_wp2_with fail
    (try rw [hL])
    go_loopw [5, 16] (fun v j wr => ∃ i : Nat, i ≤ xs.length ∧ j = .int .i64 i ∧ RowI wr L v (siftI f xs i) ∧ Acc ws L v wr) (fun _ j _ => xs.length - (intOf j).toNat)
    case atStart => exact ⟨0, by omega, rfl, by rw [siftI_zero]; exact R1, Acc.start _ _ _ (fun k hk => by simp [Value.ownBlock] at hk; omega)⟩
    case round =>
      obtain ⟨i, hi2, rfl, hrow, hacc⟩ := hrel
      by_cases hlt : ¬ i < xs.length
      · have hge : xs.length ≤ i := by omega
        rw [siftI_all hge] at hrow
        go_wp2
        go_ret
        exact ⟨_, rfl, hrow.le (by omega), hacc.ret hBel.out (by omega)⟩
      have hlt : i < xs.length := by omega
      have e0 := RowI.at (RowI.keptBut hr1 hacc.gr (fun k hk e => by simp [Value.ownBlock] at hk e; omega)) i hlt
      obtain ⟨K, hK⟩ : ∃ K, xs[i]?.getD 0 = K := ⟨_, rfl⟩
      rw [hK] at e0
      have Hl := Lib.hid (show xs[i]? = some K by rw [List.getElem?_eq_getElem hlt] at hK ⊢; simpa using hK)
      clear hK
      have c0 := hacc.gr.cell b0.out (by simp; omega)
      have c1 := hacc.gr.cell b1.out (by simp; omega)
      have c2 := hacc.gr.cell b2.out (by simp; omega)
      have hszg : g < wr.heap.size := World.block_lt_of_cell? wr ⟨g, _, none⟩ e0
      have hszw : w.heap.size < wr.heap.size := World.block_lt_of_cell? wr ⟨w.heap.size, 0, none⟩ c0
      have hln := siftI_le f xs i
      obtain ⟨zs, hzs⟩ : ∃ zs, siftI f xs i = zs := ⟨_, rfl⟩
      rw [hzs] at hrow hln
      have Hzs := Lib.hid hzs
      clear hzs
      have hsF := singleF_lt a h s K
      have hI0 : (0 : Int) ≤ (i : Int) := by omega
      have hI1 : (i : Int) < (xs.length : Int) := by omega
      obtain ⟨b, hb2⟩ : ∃ b, f K = b := ⟨_, rfl⟩
      have Hb := Lib.hid hb2
      have Hb2 := Lib.hid (show sameK a h s q (singleF a h s K) = b by rw [← hb2, ← HF.out]; rfl)
      clear hb2
      go_wp2_with fail
      go_region_held3 (fun w' : World => w'.cell? ⟨w.heap.size, 0, none⟩ = some (.int .i64 a) ∧ w'.cell? ⟨w.heap.size, 1, none⟩ = some (.int .i64 h) ∧ w'.cell? ⟨w.heap.size, 2, none⟩ = some (.int .i64 s) ∧ w'.cell? ⟨g, i, none⟩ = some (.int .i64 K) ∧ RowI w' L u5 zs ∧ Acc ws L u5 w')
        (first | assumption | exact ⟨c0, c1, c2, e0, hrow, hacc.drew⟩ | exact held5 (by assumption) hB1)
        (first | (go_at_call 33; refine (SinglePeg_any a h s K _).mono ?_; rintro e w1 ⟨rfl, hB1⟩) | (go_at_call 50; refine (SameKey_b b a h s q (singleF a h s K) hq hsF Hb2.out _).mono ?_; rintro e w1 ⟨rfl, hB1⟩))
      clear c0 c1 c2 e0 hrow hacc
      rename_i hX
      obtain ⟨c0, c1, c2, e0, hrow1, hacc1⟩ := hX
      have hszw := hacc1.gr.size
      cases b
      · go_wp2
        go_roundw
        case rel => exact ⟨i + 1, by omega, by go_num, by rw [siftI_out Hl.out Hb.out, Hzs.out]; exact hrow1, hacc1⟩
        case measure => simp [intOf]; omega
      · have hown := hrow1
        unfold RowI at hown
        clear hrow1
        obtain ⟨wq, hwq⟩ : ∃ wq, wq = w1 := ⟨_, rfl⟩
        go_wp2_with (at_builtin; refine wpList_append_own_at _ rfl _ _ 49 rfl L 3 i0 (.int .i64 0) 1 8 Try.underlying49 hi hz0 hz1 hz2 rfl (by decide) _ _ _ rfl (hown.alloc _) ⟨w1.heap.size, 0, none⟩ 1 1 [.int .i64 K] rfl rfl ?c1 ?c2 ?c3 ?c4 ?c5 ?_)
        case c1 => exact cell_one_new _ _ _
        case c2 => simp [Value.oneCell']
        case c3 => unfold maxLen; omega
        case c4 => omega
        case c5 => simp; omega
        intro v' w3 hown' hgrow _ hat
        have R := Lib.hid (RowI.put (x := K) hown')
        have Ac := Lib.hid (hacc1.append hgrow hat)
        clear hown hown' hgrow hat hacc1 c0 c1 c2 e0
        go_wp2
        go_roundw
        case rel => exact ⟨i + 1, by omega, by go_num, by rw [siftI_in Hl.out Hb.out, Hzs.out]; exact R.out, Ac.out⟩
        case measure => simp [intOf]; omega

theorem FinalHoles_any (a h s q : Int) (hq : q < 2 ^ 63) (w : World) :
    Calls Try.prog 48 #[.agg #[.int .i64 a, .int .i64 h, .int .i64 s], .int .i64 q] w (RetI w (finalL a h s q)) := by
  cases h1 : pOk a h s q
  · rw [finalL_no h1]; exact FinalHoles_no a h s q hq h1 w
  · exact FinalHoles_yes a h s q hq h1 w

end Go.Proofs.Ytoipnooncnpndaa
