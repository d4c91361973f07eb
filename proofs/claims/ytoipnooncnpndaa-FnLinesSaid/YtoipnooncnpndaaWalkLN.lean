/-
  The walk of the law FnLines.
-/
import Derived.Test.YtoipnooncnpndaaLineLaw
import Derived.Test.YtoipnooncnpndaaPos
import Derived.Test.YtoipnooncnpndaaAt
import Derived.Test.YtoipnooncnpndaaGame
import Derived.Deep.Cut
namespace Go.Proofs.Ytoipnooncnpndaa
open Go.RowKit
open Peg
set_option linter.unusedVariables false
set_option linter.unusedSimpArgs false

/-- A box of three and a row's three cells, behind calls that only make blocks. -/
def Six (n g o : Nat) (a b c d e f : Int) (w w' : World) : Prop :=
  w'.cell? ⟨n, 0, none⟩ = some (.int .i64 a) ∧ w'.cell? ⟨n, 1, none⟩ = some (.int .i64 b) ∧ w'.cell? ⟨n, 2, none⟩ = some (.int .i64 c) ∧
  w'.cell? ⟨g, o, none⟩ = some (.int .i64 d) ∧ w'.cell? ⟨g, o + 1, none⟩ = some (.int .i64 e) ∧ w'.cell? ⟨g, o + 2, none⟩ = some (.int .i64 f) ∧ Below w.heap.size w w'
theorem Six.keep {n g o : Nat} {a b c d e f : Int} {w w' w1 : World} (h : Six n g o a b c d e f w w') (hb : Below w'.heap.size w' w1) : Six n g o a b c d e f w w1 := by
  obtain ⟨h0, h1, h2, h3, h4, h5, h6⟩ := h
  exact ⟨cell_kept h0 hb, cell_kept h1 hb, cell_kept h2 hb, cell_kept h3 hb, cell_kept h4 hb, cell_kept h5 hb, h6.andThen hb⟩
theorem Six.set {n g o m j : Nat} {a b c d e f : Int} {w w' : World} (h : Six n g o a b c d e f w w') (hn : n ≠ m) (hg : g ≠ m) (hm : w.heap.size ≤ m) (v : Value) : Six n g o a b c d e f w (w'.setCell ⟨m, j, none⟩ v) := by
  obtain ⟨h0, h1, h2, h3, h4, h5, h6⟩ := h
  exact ⟨(World.cell?_setCell_far _ _ _ _ hn.symm).trans h0, (World.cell?_setCell_far _ _ _ _ hn.symm).trans h1, (World.cell?_setCell_far _ _ _ _ hn.symm).trans h2,
    (World.cell?_setCell_far _ _ _ _ hg.symm).trans h3, (World.cell?_setCell_far _ _ _ _ hg.symm).trans h4, (World.cell?_setCell_far _ _ _ _ hg.symm).trans h5, h6.setCell hm _⟩
theorem Six.set3 {n g o m : Nat} {a b c d e f : Int} {w w' : World} (h : Six n g o a b c d e f w w') (hn : n ≠ m) (hg : g ≠ m) (hm : w.heap.size ≤ m) (v0 v1 v2 : Value) : Six n g o a b c d e f w (((w'.setCell ⟨m, 0, none⟩ v0).setCell ⟨m, 1, none⟩ v1).setCell ⟨m, 2, none⟩ v2) :=
  ((h.set hn hg hm v0).set hn hg hm v1).set hn hg hm v2

def Nine (m n g o : Nat) (x y z a b c d e f : Int) (w w' : World) : Prop :=
  w'.cell? ⟨m, 0, none⟩ = some (.int .i64 x) ∧ w'.cell? ⟨m, 1, none⟩ = some (.int .i64 y) ∧ w'.cell? ⟨m, 2, none⟩ = some (.int .i64 z) ∧ Six n g o a b c d e f w w'
theorem Nine.keep {m n g o : Nat} {x y z a b c d e f : Int} {w w' w1 : World} (h : Nine m n g o x y z a b c d e f w w') (hb : Below w'.heap.size w' w1) : Nine m n g o x y z a b c d e f w w1 :=
  ⟨cell_kept h.1 hb, cell_kept h.2.1 hb, cell_kept h.2.2.1 hb, h.2.2.2.keep hb⟩
theorem Nine.set {m n g o q j : Nat} {x y z a b c d e f : Int} {w w' : World} (h : Nine m n g o x y z a b c d e f w w') (hm : m ≠ q) (hn : n ≠ q) (hg : g ≠ q) (hw : w.heap.size ≤ q) (v : Value) : Nine m n g o x y z a b c d e f w (w'.setCell ⟨q, j, none⟩ v) :=
  ⟨(World.cell?_setCell_far _ _ _ _ hm.symm).trans h.1, (World.cell?_setCell_far _ _ _ _ hm.symm).trans h.2.1, (World.cell?_setCell_far _ _ _ _ hm.symm).trans h.2.2.1, h.2.2.2.set hn hg hw v⟩
theorem Nine.set3 {m n g o q : Nat} {x y z a b c d e f : Int} {w w' : World} (h : Nine m n g o x y z a b c d e f w w') (hm : m ≠ q) (hn : n ≠ q) (hg : g ≠ q) (hw : w.heap.size ≤ q) (v0 v1 v2 : Value) : Nine m n g o x y z a b c d e f w (((w'.setCell ⟨q, 0, none⟩ v0).setCell ⟨q, 1, none⟩ v1).setCell ⟨q, 2, none⟩ v2) :=
  ((h.set hm hn hg hw v0).set hm hn hg hw v1).set hm hn hg hw v2
def Twelve (q m n g o : Nat) (u v t x y z a b c d e f : Int) (w w' : World) : Prop :=
  w'.cell? ⟨q, 0, none⟩ = some (.int .i64 u) ∧ w'.cell? ⟨q, 1, none⟩ = some (.int .i64 v) ∧ w'.cell? ⟨q, 2, none⟩ = some (.int .i64 t) ∧ Nine m n g o x y z a b c d e f w w'
theorem Twelve.keep {q m n g o : Nat} {u v t x y z a b c d e f : Int} {w w' w1 : World} (h : Twelve q m n g o u v t x y z a b c d e f w w') (hb : Below w'.heap.size w' w1) : Twelve q m n g o u v t x y z a b c d e f w w1 :=
  ⟨cell_kept h.1 hb, cell_kept h.2.1 hb, cell_kept h.2.2.1 hb, h.2.2.2.keep hb⟩
theorem implRect_ok (W H : Nat) (w1 : 1 ≤ W) (w7 : W ≤ 7) (h1 : 1 ≤ H) (h7 : H ≤ 7) (w : World) :
    Calls Try.prog 24 #[.int .i64 W, .int .i64 H] w fun e w' => e = .returned (.agg #[.int .i64 W, .int .i64 H, .int .i64 (2 ^ (W * H) - 1 : Nat)]) ∧ Below w.heap.size w w' := by
  have h := Rectangle_any W H w
  have e : rectOk W H = true := by simp [rectOk, inB]; omega
  have e2 : ((W : Int) * (H : Int)).toNat = W * H := by rw [← Int.natCast_mul, Int.toNat_natCast]
  have e3 : (2 : Int) ^ (W * H) - 1 = ((2 ^ (W * H) - 1 : Nat) : Int) := by
    have := Nat.two_pow_pos (W * H)
    rw [cast_pow]; omega
  simp only [rectW, rectH, rectS, e, if_true, e2, e3] at h
  exact h
theorem LineFwd_any {W H S : Nat} {la lb lc : Int} (h : LineFit W H S ⟨la, lb, lc⟩) (w : World) :
    Calls Try.prog 19 #[.agg #[.int .i64 W, .int .i64 H, .int .i64 S], .int .i64 la, .int .i64 lc] w fun e w' => e = .returned (.tuple #[.agg #[.int .i64 la, .int .i64 lb, .int .i64 lc], .bool true]) ∧ Below w.heap.size w w' := by
  have := LineBetween_any W H S la lc w
  rw [h.fwd] at this; exact this
theorem LineBack_any {W H S : Nat} {la lb lc : Int} (h : LineFit W H S ⟨la, lb, lc⟩) (w : World) :
    Calls Try.prog 19 #[.agg #[.int .i64 W, .int .i64 H, .int .i64 S], .int .i64 lc, .int .i64 la] w fun e w' => e = .returned (.tuple #[.agg #[.int .i64 lc, .int .i64 lb, .int .i64 la], .bool true]) ∧ Below w.heap.size w w' := by
  have := LineBetween_any W H S lc la w
  rw [h.back] at this; exact this

theorem Through_fit {W H S : Nat} {la lb lc : Int} (h : LineFit W H S ⟨la, lb, lc⟩) (w : World) :
    Calls Try.prog 22 #[.agg #[.int .i64 W, .int .i64 H, .int .i64 S], .int .i64 lb] w fun e w' => ∃ p T cap, 2 ≤ T ∧ e = .returned (.slice p T cap) ∧ Below w.heap.size w w' := by
  refine (LinesThrough_any W H S lb w).mono ?_
  rintro e w1 hr
  obtain ⟨v, rfl, hr1, hB⟩ := hr
  obtain ⟨p, cp, rfl, _⟩ := hr1.lines
  exact ⟨p, _, cp, h.two, rfl, hB⟩
theorem Lone_fit {W H S : Nat} {la lb lc : Int} (h : LineFit W H S ⟨la, lb, lc⟩) (w : World) :
    Calls Try.prog 21 #[.agg #[.int .i64 W, .int .i64 H, .int .i64 S], .int .i64 lb] w fun e w' => e = .returned (.bool false) ∧ Below w.heap.size w w' := by
  have := IsLoneHole_any W H S lb w
  rw [h.lone] at this; exact this

set_option maxHeartbeats 1600000 in
set_option maxRecDepth 100000 in
theorem walkFnLines (ad : Option Addr) (len cap : Nat) (w : World) (h : IsCode w ad len) :
    Calls Try.prog 4 #[.slice ad len cap] w fun e w' => e = .returned (.bool true) ∧ Below w.heap.size w w' := by
  have HC := Lib.hid h
  clear h
  by_cases hle : ¬ len ≤ 1048576
  · have hb : decide ((1048576 : Int) < (len : Int)) = true := by simp; omega
    go_enter Try.func4, Try.ntmps4
    go_wp2_with fail
    refine (big_any ad len cap true hb _).mono ?_
    rintro e w1 ⟨rfl, hw1⟩
    subst w1
    go_wp2
    go_ret
    exact ⟨rfl, Below.refl _ _⟩
  have hle : len ≤ 1048576 := by omega
  have hb : decide ((1048576 : Int) < (len : Int)) = false := by simp; omega
  have HLE := Lib.hid hle
  go_enter Try.func4, Try.ntmps4
  go_wp2_with fail
  refine (big_any ad len cap false hb _).mono ?_
  rintro e w1 ⟨rfl, hw1⟩
  subst w1
  clear hb hle
  go_wp2_with fail
  refine (DrawBoard_any ad len cap HLE.out _ HC.out).mono ?_
  rintro e w2 ⟨W, H, S, ok, rfl, hB2⟩
  have X2 := BoxAt.new w2 W H S 26
  have b2 := below1 w2 (.cells #[.int .i64 W, .int .i64 H, .int .i64 S] 26)
  have hC3 := Lib.hid ((HC.out.kept hB2).kept b2)
  have hBel := Lib.hid (hB2.andThen b2)
  have HOK := Lib.hid ok
  obtain ⟨n, hn⟩ : ∃ n, w2.heap.size = n := ⟨_, rfl⟩
  rw [hn] at X2
  clear hB2 b2 HC ok
  go_wp2_with fail
  generalize w2.alloc (.cells #[.int .i64 W, .int .i64 H, .int .i64 S] 26) = w3 at X2 hC3 hBel ⊢
  clear hn
  refine (LinesOf_any _ _ _ _).mono ?_
  rintro e w4 hr
  obtain ⟨v, rfl, hr1, hB4⟩ := hr
  obtain ⟨p, cp, rfl, hat⟩ := hr1.lines
  have HLn := Lib.hid (show (linesL W H S).length % 2 = 0 by rw [linesL_ok HOK.out]; exact linesF_even HOK.out)
  have HFit := Lib.hid (fun (k : Nat) (l : Ln) (hl : (linesL W H S)[k]? = some l) => lineFit HOK.out (by rw [linesL_ok HOK.out] at hl; exact List.mem_of_getElem? hl))
  have HSh := Lib.hid (linesL_short W H S)
  obtain ⟨ls, hls⟩ : ∃ ls, linesL W H S = ls := ⟨_, rfl⟩
  rw [hls] at hat HLn HFit HSh ⊢
  obtain ⟨L, hL⟩ : ∃ L, ls.length = L := ⟨_, rfl⟩
  have HCL := Lib.hid (show ∀ w, _ from fun w => CountLines_any W H S w)
  rw [hls] at HCL
  rw [hL] at HLn HSh HCL ⊢
  have HL := Lib.hid hL
  have X4 := X2.below hB4
  replace hBel := Lib.hid (hBel.out.andThen hB4)
  have hC4 := Lib.hid (hC3.out.kept hB4)
  have HAT := Lib.hid hat
  clear hr1 hB4 hat hls hL X2 hC3
  obtain ⟨b0, b1, b2, bz⟩ := X4
  go_wp2_with fail
  refine (at_any ad len cap 0 (by decide) (by decide) _ hC4.out HLE.out).mono ?_
  rintro e w5 ⟨x, hx, rfl, hw5⟩
  subst w5
  obtain ⟨r, hr⟩ : ∃ r, (x : Int) % 7 = r := ⟨_, rfl⟩
  have hr2 : (x : Int).tmod 7 = r := by rw [Int.tmod_eq_emod_of_nonneg (by omega)]; exact hr
  have hr0 : 0 ≤ r := by omega
  have hr7 : r < 7 := by omega
  obtain ⟨W2, hW2⟩ : ∃ W2 : Nat, (1 : Int) + r = W2 := ⟨(1 + r).toNat, by omega⟩
  have hW21 : 1 ≤ W2 := by omega
  have hW27 : W2 ≤ 7 := by omega
  have hww : IntKind.i64.wrap r = r := Bit.i64_wrap _ (by omega) (by omega)
  go_wp2_with fail
  refine (at_any ad len cap 1 (by decide) (by decide) _ hC4.out HLE.out).mono ?_
  rintro e w5 ⟨y, hy, rfl, hw5⟩
  subst w5
  clear hr hr2 hr0 hr7 hW2 hww hx
  obtain ⟨r, hr⟩ : ∃ r, (y : Int) % 7 = r := ⟨_, rfl⟩
  have hr2 : (y : Int).tmod 7 = r := by rw [Int.tmod_eq_emod_of_nonneg (by omega)]; exact hr
  have hr0 : 0 ≤ r := by omega
  have hr7 : r < 7 := by omega
  obtain ⟨H2, hH2⟩ : ∃ H2 : Nat, (1 : Int) + r = H2 := ⟨(1 + r).toNat, by omega⟩
  have hH21 : 1 ≤ H2 := by omega
  have hH27 : H2 ≤ 7 := by omega
  have hww : IntKind.i64.wrap r = r := Bit.i64_wrap _ (by omega) (by omega)
  go_wp2_with fail
  clear hr hr2 hr0 hr7 hH2 hww hy
  go_loopw [7] (fun j wr => ∃ k : Nat, k ≤ L ∧ j = .int .i64 k ∧ Below w4.heap.size w4 wr) (fun j _ => L - (intOf j).toNat)
  case atStart => exact ⟨0, by omega, rfl, Below.refl _ _⟩
  case round =>
    obtain ⟨k, hk, rfl, hb⟩ := hrel
    have hSh := HSh.out
    by_cases hlt : k < L
    · have hlk : k < ls.length := by rw [HL.out]; exact hlt
      obtain ⟨l, hl⟩ : ∃ l, ls[k]? = some l := ⟨ls[k], List.getElem?_eq_getElem hlk⟩
      rcases HAT.out with h0 | ⟨g, rfl, hat⟩
      · omega
      obtain ⟨e0, e1, e2⟩ := hat k l hl
      replace b0 := cell_kept b0 hb
      replace b1 := cell_kept b1 hb
      replace b2 := cell_kept b2 hb
      replace e0 := cell_kept e0 hb
      replace e1 := cell_kept e1 hb
      replace e2 := cell_kept e2 hb
      have HF := Lib.hid (HFit.out k l hl)
      have hmid := HF.out.mid
      obtain ⟨la, lb, lc, rfl, ha, hb', hc⟩ := HF.out.nat
      dsimp only at e0 e1 e2 hmid
      have hnw : n < wr.heap.size := World.block_lt_of_cell? wr _ b0
      have hgw : g < wr.heap.size := World.block_lt_of_cell? wr _ e0
      have hsz := hb.size
      have hI0 : (0 : Int) ≤ (k : Int) := by omega
      have hI1 : (k : Int) < (L : Int) := by omega
      have hS0 : Six n g (k * 3) W H S la lb lc w4 wr.drew := ⟨b0, b1, b2, e0, e1, e2, hb.drew⟩
      clear hat hl hlk
      go_wp2_with fail
      go_cut [8, 9] from 200 (fun q c wc => ∃ m, q = .pointer (some ⟨m, 0, none⟩) ∧ c = .bool true ∧ wc.cell? ⟨m, 0, none⟩ = some (.int .i64 la) ∧ wc.cell? ⟨m, 1, none⟩ = some (.int .i64 lb) ∧ wc.cell? ⟨m, 2, none⟩ = some (.int .i64 lc) ∧ Six n g (k * 3) W H S la lb lc w4 wc)
      case first =>
        go_region_held3 (fun w' => w'.cell? ⟨n, 0, none⟩ = some (.int .i64 W) ∧ w'.cell? ⟨n, 1, none⟩ = some (.int .i64 H) ∧ w'.cell? ⟨n, 2, none⟩ = some (.int .i64 S) ∧ w'.cell? ⟨g, k * 3, none⟩ = some (.int .i64 la) ∧ w'.cell? ⟨g, k * 3 + 1, none⟩ = some (.int .i64 lb) ∧ w'.cell? ⟨g, k * 3 + 2, none⟩ = some (.int .i64 lc) ∧ Below w4.heap.size w4 w')
          (first | assumption | exact hS0 | exact hSx | exact Six.keep hSx (below1 _ _) | exact Six.keep (by assumption) (below1 _ _) | exact Six.set3 (by assumption) (by (try simp); omega) (by (try simp); omega) (by (try simp); omega) _ _ _)
          (first
            | (go_at_call 19; refine (LineFwd_any HF.out (wr.drew.alloc (.cells #[.int .i64 0, .int .i64 0, .int .i64 0] 38))).mono ?_; rintro e w1 ⟨rfl, hB1⟩; have hSx : Six n g (k * 3) W H S la lb lc w4 w1 := Six.keep (by assumption) hB1; obtain ⟨z0, z1, z2, f0, f1, f2, zz⟩ := (Zero3.newD wr 38).below hB1)
            | (go_at_call 19; refine (LineFwd_any HF.out _).mono ?_; rintro e w1 ⟨rfl, hB1⟩; have hSx : Six n g (k * 3) W H S la lb lc w4 w1 := Six.keep (by assumption) hB1))
        · go_wp2
          go_meet
          case rel =>
            have X := BoxAt.new w1 la lb lc 38
            exact ⟨_, rfl, rfl, X.c0, X.c1, X.c2, hSx.keep (below1 _ _)⟩
        · go_wp2
          go_meet
          case rel =>
            obtain ⟨q0, q1, q2⟩ := fin3 (.int .i64 la) (.int .i64 lb) (.int .i64 lc) z0 z1 z2
            exact ⟨_, rfl, rfl, q0, q1, q2, hSx.set3 (by omega) (by omega) (by omega) _ _ _⟩
      case rest =>
        clear b0 b1 b2 e0 e1 e2 hS0 hsz hnw hgw
        obtain ⟨m, rfl, rfl, m0, m1, m2, b0, b1, b2, e0, e1, e2, hbc⟩ := hcut
        have hnw : n < wc.heap.size := World.block_lt_of_cell? wc _ b0
        have hgw : g < wc.heap.size := World.block_lt_of_cell? wc _ e0
        have hmw : m < wc.heap.size := World.block_lt_of_cell? wc _ m0
        have hsz := hbc.size
        have hS0 : Nine m n g (k * 3) la lb lc W H S la lb lc w4 wc.drew := ⟨m0, m1, m2, b0, b1, b2, e0, e1, e2, hbc.drew⟩
        rename World => wd
        go_wp2_with fail
        go_cut [10, 11] from 200 (fun q c wc => ∃ i, q = .pointer (some ⟨i, 0, none⟩) ∧ c = .bool true ∧ Twelve i m n g (k * 3) lc lb la la lb lc W H S la lb lc w4 wc)
        case first =>
          go_region_held3 (fun w' => w'.cell? ⟨m, 0, none⟩ = some (.int .i64 la) ∧ w'.cell? ⟨m, 1, none⟩ = some (.int .i64 lb) ∧ w'.cell? ⟨m, 2, none⟩ = some (.int .i64 lc) ∧ w'.cell? ⟨n, 0, none⟩ = some (.int .i64 W) ∧ w'.cell? ⟨n, 1, none⟩ = some (.int .i64 H) ∧ w'.cell? ⟨n, 2, none⟩ = some (.int .i64 S) ∧ w'.cell? ⟨g, k * 3, none⟩ = some (.int .i64 la) ∧ w'.cell? ⟨g, k * 3 + 1, none⟩ = some (.int .i64 lb) ∧ w'.cell? ⟨g, k * 3 + 2, none⟩ = some (.int .i64 lc) ∧ Below w4.heap.size w4 w')
            (first | assumption | exact hS0 | exact hSx | exact Nine.keep hSx (below1 _ _) | exact Nine.keep (by assumption) (below1 _ _) | exact Nine.set3 (by assumption) (by (try simp); omega) (by (try simp); omega) (by (try simp); omega) (by (try simp); omega) _ _ _)
            (first
              | (go_at_call 19; refine (LineBack_any HF.out (wd.drew.alloc (.cells #[.int .i64 0, .int .i64 0, .int .i64 0] 38))).mono ?_; rintro e w1 ⟨rfl, hB1⟩; have hSx : Nine m n g (k * 3) la lb lc W H S la lb lc w4 w1 := Nine.keep (by assumption) hB1; obtain ⟨z0, z1, z2, f0, f1, f2, zz⟩ := (Zero3.newD wd 38).below hB1)
              | (go_at_call 19; refine (LineBack_any HF.out _).mono ?_; rintro e w1 ⟨rfl, hB1⟩; have hSx : Nine m n g (k * 3) la lb lc W H S la lb lc w4 w1 := Nine.keep (by assumption) hB1))
          · go_wp2
            go_meet
            case rel =>
              have X := BoxAt.new w1 lc lb la 38
              exact ⟨_, rfl, rfl, X.c0, X.c1, X.c2, hSx.keep (below1 _ _)⟩
          · go_wp2
            go_meet
            case rel =>
              obtain ⟨q0, q1, q2⟩ := fin3 (.int .i64 lc) (.int .i64 lb) (.int .i64 la) z0 z1 z2
              exact ⟨_, rfl, rfl, q0, q1, q2, hSx.set3 (by omega) (by omega) (by omega) (by omega) _ _ _⟩
        case rest =>
          clear m0 m1 m2 b0 b1 b2 e0 e1 e2 hS0 hsz hnw hgw hmw hbc
          obtain ⟨i, rfl, rfl, i0, i1, i2, m0, m1, m2, b0, b1, b2, e0, e1, e2, hbc⟩ := hcut
          have hgw : g < wc.heap.size := World.block_lt_of_cell? wc _ e0
          have hS0 : Twelve i m n g (k * 3) lc lb la la lb lc W H S la lb lc w4 wc.drew := ⟨i0, i1, i2, m0, m1, m2, b0, b1, b2, e0, e1, e2, hbc.drew⟩
          rename World => wd2
          go_wp2_with fail
          go_cut [121] from 200 (fun c wc => c = .bool false ∧ Below w4.heap.size w4 wc)
          case first =>
            go_region_held3 (fun w' => w'.cell? ⟨i, 0, none⟩ = some (.int .i64 lc) ∧ w'.cell? ⟨i, 1, none⟩ = some (.int .i64 lb) ∧ w'.cell? ⟨i, 2, none⟩ = some (.int .i64 la) ∧ w'.cell? ⟨m, 0, none⟩ = some (.int .i64 la) ∧ w'.cell? ⟨m, 1, none⟩ = some (.int .i64 lb) ∧ w'.cell? ⟨m, 2, none⟩ = some (.int .i64 lc) ∧ w'.cell? ⟨n, 0, none⟩ = some (.int .i64 W) ∧ w'.cell? ⟨n, 1, none⟩ = some (.int .i64 H) ∧ w'.cell? ⟨n, 2, none⟩ = some (.int .i64 S) ∧ w'.cell? ⟨g, k * 3, none⟩ = some (.int .i64 la) ∧ w'.cell? ⟨g, k * 3 + 1, none⟩ = some (.int .i64 lb) ∧ w'.cell? ⟨g, k * 3 + 2, none⟩ = some (.int .i64 lc) ∧ Below w4.heap.size w4 w')
              (first | assumption | exact hS0 | exact Twelve.keep (by assumption) (by assumption))
              (first
                | (go_at_call 20; refine (TurnLine_any _ _ _ _).mono ?_; rintro e w1 ⟨rfl, hB1⟩)
                | (go_at_call 21; refine (Lone_fit HF.out _).mono ?_; rintro e w1 ⟨rfl, hB1⟩)
                | (go_at_call 22; refine (Through_fit HF.out _).mono ?_; rintro e w1 ⟨pt, T, ct, hT, rfl, hB1⟩; have hT2 : ¬ (T : Int) < 2 := by omega))
            go_wp2
            go_meet
            case rel =>
              have hfin : Twelve i m n g (k * 3) lc lb la la lb lc W H S la lb lc w4 w1 := by assumption
              exact ⟨by first | rfl | rw [decide_eq_false (by omega)], hfin.2.2.2.2.2.2.2.2.2.2.2.2⟩
          case rest =>
            obtain ⟨rfl, hbc⟩ := hcut
            go_wp2
            go_roundw
            case rel => exact ⟨k + 1, by omega, by go_num, hbc⟩
            case measure => simp [intOf]; omega
    · have hI1 : ¬ (k : Int) < (L : Int) := by omega
      have hL0 := HLn.out
      have hL2 : (L : Int) % 2 = 0 := by omega
      have hL3 : (L : Int).tmod 2 = 0 := by rw [Int.tmod_eq_emod_of_nonneg (by omega)]; exact hL2
      replace b0 := cell_kept b0 hb
      replace b1 := cell_kept b1 hb
      replace b2 := cell_kept b2 hb
      have hBw := Lib.hid (hBel.out.andThen hb)
      clear hL0 hb
      go_wp2_with fail
      refine (HCL.out _).mono ?_
      rintro e w5 ⟨rfl, hB5⟩
      replace hBw := Lib.hid (hBw.out.andThen hB5)
      clear hB5 b0 b1 b2
      obtain ⟨M, hM⟩ : ∃ M, (W2 - 2) * H2 = M := ⟨_, rfl⟩
      obtain ⟨N, hN⟩ : ∃ N, W2 * (H2 - 2) = N := ⟨_, rfl⟩
      have hM1 : M ≤ 49 := by rw [← hM]; exact area_le (by omega) (by omega)
      have hN1 : N ≤ 49 := by rw [← hN]; exact area_le (by omega) (by omega)
      have hR := rectL W2 H2 hW21 hW27 hH21 hH27
      rw [hM, hN] at hR
      have HR := Lib.hid hR
      have hCr := CountLines_any W2 H2 (2 ^ (W2 * H2) - 1 : Nat)
      rw [hR] at hCr
      obtain ⟨SR, hSR⟩ : ∃ SR : Nat, 2 ^ (W2 * H2) - 1 = SR := ⟨_, rfl⟩
      have hRc := implRect_ok W2 H2 hW21 hW27 hH21 hH27
      rw [hSR] at hRc hCr
      have HCr := Lib.hid hCr
      have HRc := Lib.hid hRc
      clear hR hCr hSR hRc
      have hCx := CountLines_any 7 7 (crossTo 49 : Nat)
      rw [crossL] at hCx
      have HCx := Lib.hid hCx
      clear hCx
      go_wp2_with fail
      refine (HRc.out _).mono ?_
      rintro e w6 ⟨rfl, hB6⟩
      replace hBw := Lib.hid (hBw.out.andThen hB6)
      clear hB6
      go_wp2_with fail
      refine (HCr.out _).mono ?_
      rintro e w7 ⟨rfl, hB7⟩
      replace hBw := Lib.hid (hBw.out.andThen hB7)
      clear hB7
      by_cases h1 : 2 < W2
      · by_cases h2 : 2 < H2
        · have hI5 : (2 : Int) < (W2 : Int) := by omega
          have q1 : ((W2 : Int) - 2) * (H2 : Int) = (M : Int) := by rw [← hM, Int.natCast_mul, Int.natCast_sub (by omega)]; rfl
          have hI6 : (2 : Int) < (H2 : Int) := by omega
          have q2 : (W2 : Int) * ((H2 : Int) - 2) = (N : Int) := by rw [← hN, Int.natCast_mul, Int.natCast_sub (by omega)]; rfl
          clear hM hN
          go_wp2_with fail
          refine (CrossBoard_any _).mono ?_
          rintro e w8 ⟨rfl, hB8⟩
          replace hBw := Lib.hid (hBw.out.andThen hB8)
          clear hB8
          go_wp2_with fail
          refine (HCx.out _).mono ?_
          rintro e w9 ⟨rfl, hB9⟩
          replace hBw := Lib.hid (hBw.out.andThen hB9)
          clear hB9
          go_wp2
          go_ret
          exact ⟨rfl, hBw.out⟩
        · have hI5 : (2 : Int) < (W2 : Int) := by omega
          have q1 : ((W2 : Int) - 2) * (H2 : Int) = (M : Int) := by rw [← hM, Int.natCast_mul, Int.natCast_sub (by omega)]; rfl
          have hI6 : ¬ (2 : Int) < (H2 : Int) := by omega
          have q2 : N = 0 := by rw [← hN, show H2 - 2 = 0 by omega, Nat.mul_zero]
          subst q2
          clear hM hN
          go_wp2_with fail
          refine (CrossBoard_any _).mono ?_
          rintro e w8 ⟨rfl, hB8⟩
          replace hBw := Lib.hid (hBw.out.andThen hB8)
          clear hB8
          go_wp2_with fail
          refine (HCx.out _).mono ?_
          rintro e w9 ⟨rfl, hB9⟩
          replace hBw := Lib.hid (hBw.out.andThen hB9)
          clear hB9
          go_wp2
          go_ret
          exact ⟨rfl, hBw.out⟩
      · by_cases h2 : 2 < H2
        · have hI5 : ¬ (2 : Int) < (W2 : Int) := by omega
          have q1 : M = 0 := by rw [← hM, show W2 - 2 = 0 by omega, Nat.zero_mul]
          subst q1
          have hI6 : (2 : Int) < (H2 : Int) := by omega
          have q2 : (W2 : Int) * ((H2 : Int) - 2) = (N : Int) := by rw [← hN, Int.natCast_mul, Int.natCast_sub (by omega)]; rfl
          clear hM hN
          go_wp2_with fail
          refine (CrossBoard_any _).mono ?_
          rintro e w8 ⟨rfl, hB8⟩
          replace hBw := Lib.hid (hBw.out.andThen hB8)
          clear hB8
          go_wp2_with fail
          refine (HCx.out _).mono ?_
          rintro e w9 ⟨rfl, hB9⟩
          replace hBw := Lib.hid (hBw.out.andThen hB9)
          clear hB9
          go_wp2
          go_ret
          exact ⟨rfl, hBw.out⟩
        · have hI5 : ¬ (2 : Int) < (W2 : Int) := by omega
          have q1 : M = 0 := by rw [← hM, show W2 - 2 = 0 by omega, Nat.zero_mul]
          subst q1
          have hI6 : ¬ (2 : Int) < (H2 : Int) := by omega
          have q2 : N = 0 := by rw [← hN, show H2 - 2 = 0 by omega, Nat.mul_zero]
          subst q2
          clear hM hN
          go_wp2_with fail
          refine (CrossBoard_any _).mono ?_
          rintro e w8 ⟨rfl, hB8⟩
          replace hBw := Lib.hid (hBw.out.andThen hB8)
          clear hB8
          go_wp2_with fail
          refine (HCx.out _).mono ?_
          rintro e w9 ⟨rfl, hB9⟩
          replace hBw := Lib.hid (hBw.out.andThen hB9)
          clear hB9
          go_wp2
          go_ret
          exact ⟨rfl, hBw.out⟩
end Go.Proofs.Ytoipnooncnpndaa
