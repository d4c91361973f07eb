/-
  The walk of the law FnJumps.
-/
import Derived.Test.YtoipnooncnpndaaJumpLaw
import Derived.Test.YtoipnooncnpndaaGame
import Derived.Test.YtoipnooncnpndaaSix
import Derived.Deep.Cut
namespace Go.Proofs.Ytoipnooncnpndaa
open Go.RowKit
open Peg
set_option linter.unusedVariables false
set_option linter.unusedSimpArgs false

theorem rect3_any (w : World) :
    Calls Try.prog 24 #[.int .i64 3, .int .i64 1] w fun e w' => e = .returned (.agg #[.int .i64 3, .int .i64 1, .int .i64 7]) ∧ Below w.heap.size w w' := by
  have h := Rectangle_any 3 1 w
  have e1 : rectW 3 1 = 3 := by decide
  have e2 : rectH 3 1 = 1 := by decide
  have e3 : rectS 3 1 = 7 := by decide
  rw [e1, e2, e3] at h
  exact h
theorem jumps3_any (w : World) :
    Calls Try.prog 35 #[.agg #[.int .i64 3, .int .i64 1, .int .i64 7], .int .i64 3] w fun e w' => ∃ p cap, e = .returned (.slice p 1 cap) ∧ Below w.heap.size w w' := by
  refine (JumpsOf_any 3 1 7 3 (by decide) w).mono ?_
  rintro e w1 hr
  obtain ⟨v, rfl, hr1, hB⟩ := hr
  obtain ⟨p, cp, rfl, _⟩ := hr1.lines
  have e : (jumpL 3 1 7 3).length = 1 := jump_row3
  rw [e]
  exact ⟨p, cp, rfl, hB⟩
theorem slice_any {f : FuncId} {args : Array Value} {w : World} {ls : List Ln} {L : Nat} (h : Calls Try.prog f args w (RetL w ls)) (hL : ls.length = L) :
    Calls Try.prog f args w fun e w' => ∃ p cap, e = .returned (.slice p L cap) ∧ LinesAt w' p ls ∧ Below w.heap.size w w' := by
  refine h.mono ?_
  rintro e w1 hr
  obtain ⟨v, rfl, hr1, hB⟩ := hr
  obtain ⟨p, cp, rfl, hat⟩ := hr1.lines
  rw [hL]
  exact ⟨p, cp, rfl, hat, hB⟩

set_option maxHeartbeats 6400000 in
set_option maxRecDepth 100000 in
theorem walkFnJumps (ad : Option Addr) (len cap : Nat) (w : World) (h : IsCode w ad len) :
    Calls Try.prog 6 #[.slice ad len cap] w fun e w' => e = .returned (.bool true) ∧ Below w.heap.size w w' := by
  have HC := Lib.hid h
  clear h
  by_cases hle : ¬ len ≤ 1048576
  · have hb : decide ((1048576 : Int) < (len : Int)) = true := by simp; omega
    go_enter Try.func6, Try.ntmps6
    go_wp2_with fail
    refine (big_any ad len cap true hb _).mono ?_
    rintro e w1 ⟨rfl, hw1⟩
    subst w1
    go_wp2
    go_ret
    exact ⟨rfl, Below.refl _ _⟩
  have hle : len ≤ 1048576 := by omega
  have hb : decide ((1048576 : Int) < (len : Int)) = false := by simp; omega
  have HLE := Lib.hid hle
  go_enter Try.func6, Try.ntmps6
  go_wp2_with fail
  refine (big_any ad len cap false hb _).mono ?_
  rintro e w1 ⟨rfl, hw1⟩
  subst w1
  clear hb hle
  go_wp2_with fail
  refine (DrawPosition_any ad len cap HLE.out _ HC.out).mono ?_
  rintro e w2 ⟨W, H, S, P, ok, hs, rfl, hB2⟩
  have X2 := BoxAt.new w2 W H S 26
  have b2 := below1 w2 (.cells #[.int .i64 W, .int .i64 H, .int .i64 S] 26)
  have hBel := Lib.hid (hB2.andThen b2)
  have HJF := Lib.hid (fun (k : Nat) (l : Ln) (hl : (jumpL W H S P)[k]? = some l) => jumpL_fit ok hs hl)
  have HUF := Lib.hid (fun (k : Nat) (l : Ln) (hl : (undoL W H S P)[k]? = some l) => undoL_fit ok hs hl)
  have hP : P < 2 ^ 49 := Nat.lt_of_le_of_lt (sub_le hs) ok.lt
  have hSJ := jumpL_short W H S P
  have hSU := undoL_short W H S P
  have hcJ := fun w => slice_any (JumpsOf_any W H S P (by omega) w) rfl
  have hcU := fun w => slice_any (UndosOf_any W H S P (by omega) w) rfl
  have hsJ := fun w => slice_any (specJumpsOf_any W H S P (by omega) w) rfl
  have hsU := fun w => slice_any (specUndosOf_any W H S P (by omega) w) rfl
  obtain ⟨n, hn⟩ : ∃ n, w2.heap.size = n := ⟨_, rfl⟩
  rw [hn] at X2
  obtain ⟨js, hjs⟩ : ∃ js, jumpL W H S P = js := ⟨_, rfl⟩
  obtain ⟨us, hus⟩ : ∃ us, undoL W H S P = us := ⟨_, rfl⟩
  rw [hjs] at HJF hSJ hcJ hsJ
  rw [hus] at HUF hSU hcU hsU
  obtain ⟨J, hJ⟩ : ∃ J, js.length = J := ⟨_, rfl⟩
  obtain ⟨U, hU⟩ : ∃ U, us.length = U := ⟨_, rfl⟩
  rw [hJ] at hSJ hcJ hsJ
  rw [hU] at hSU hcU hsU
  have HcJ := Lib.hid hcJ
  have HcU := Lib.hid hcU
  have HsJ := Lib.hid hsJ
  have HsU := Lib.hid hsU
  have HJ := Lib.hid hJ
  have HU := Lib.hid hU
  clear hB2 b2 HC ok hs hcJ hcU hsJ hsU hjs hus hJ hU hP
  go_wp2_with fail
  generalize w2.alloc (.cells #[.int .i64 W, .int .i64 H, .int .i64 S] 26) = w3 at X2 hBel ⊢
  clear hn
  refine (HcJ.out _).mono ?_
  rintro e w4 ⟨p1, cp1, rfl, hat1, hB4⟩
  have X4 := X2.below hB4
  replace hBel := Lib.hid (hBel.out.andThen hB4)
  clear X2 hB4
  obtain ⟨b0, b1, b2, bz⟩ := X4
  have hAT1 := Lib.hid hat1
  clear hat1
  go_wp2_with fail
  refine (HcU.out _).mono ?_
  rintro e w5 ⟨p2, cp2, rfl, hat2, hB5⟩
  replace b0 := cell_kept b0 hB5
  replace b1 := cell_kept b1 hB5
  replace b2 := cell_kept b2 hB5
  replace hBel := Lib.hid (hBel.out.andThen hB5)
  have HAT1 := Lib.hid (hAT1.out.kept hB5)
  have HAT2 := Lib.hid hat2
  clear hB5 hat2 hAT1 bz
  go_wp2_with fail
  go_loopw [7] (fun j wr => ∃ k : Nat, k ≤ J ∧ j = .int .i64 k ∧ Below w5.heap.size w5 wr) (fun j _ => J - (intOf j).toNat)
  case atStart => exact ⟨0, by omega, rfl, Below.refl _ _⟩
  case round =>
    obtain ⟨k, hk, rfl, hb⟩ := hrel
    by_cases hlt : k < J
    · have hlk : k < js.length := by rw [HJ.out]; exact hlt
      obtain ⟨l, hl⟩ : ∃ l, js[k]? = some l := ⟨js[k], List.getElem?_eq_getElem hlk⟩
      rcases HAT1.out with h0 | ⟨g, rfl, hat⟩
      · omega
      obtain ⟨e0, e1, e2⟩ := hat k l hl
      obtain ⟨A, B, C, Q, N, rfl, fit⟩ := HJF.out k l hl
      dsimp only at e0 e1 e2
      replace b0 := cell_kept b0 hb
      replace b1 := cell_kept b1 hb
      replace b2 := cell_kept b2 hb
      replace e0 := cell_kept e0 hb
      replace e1 := cell_kept e1 hb
      replace e2 := cell_kept e2 hb
      have HF := Lib.hid fit
      have hgw : g < wr.heap.size := World.block_lt_of_cell? wr _ e0
      have hI0 : (0 : Int) ≤ (k : Int) := by omega
      have hS0 : Six n g (k * 3) W H S A B C w5 wr.drew := ⟨b0, b1, b2, e0, e1, e2, hb.drew⟩
      clear hat hl hlk fit
      have hI1 : (k : Int) < (J : Int) := by omega
      have hN := HF.out.hN
      have hNw : IntKind.i64.wrap (N : Int) = (N : Int) := Bit.i64_wrap _ (by omega) (by omega)
      go_wp2_with fail
      go_cut [8, 9] from 200 (fun q c wc => q = .int .i64 (Q : Nat) ∧ c = .bool true ∧ Six n g (k * 3) W H S A B C w5 wc)
      case first =>
        go_region_held3 (fun w' => w'.cell? ⟨n, 0, none⟩ = some (.int .i64 W) ∧ w'.cell? ⟨n, 1, none⟩ = some (.int .i64 H) ∧ w'.cell? ⟨n, 2, none⟩ = some (.int .i64 S) ∧ w'.cell? ⟨g, k * 3, none⟩ = some (.int .i64 A) ∧ w'.cell? ⟨g, k * 3 + 1, none⟩ = some (.int .i64 B) ∧ w'.cell? ⟨g, k * 3 + 2, none⟩ = some (.int .i64 C) ∧ Below w5.heap.size w5 w')
          (first | assumption | exact hS0 | exact Six.keep (by assumption) (by assumption))
          (first | (go_at_call 37; refine (HF.out.dj _).mono ?_; rintro e w1 ⟨rfl, hB1⟩))
        go_wp2
        go_meet
        case rel => exact ⟨rfl, rfl, by assumption⟩
      case rest =>
      clear b0 b1 b2 e0 e1 e2 hS0 hgw
      obtain ⟨rfl, rfl, b0, b1, b2, e0, e1, e2, hbc⟩ := hcut
      have hgw : g < wc.heap.size := World.block_lt_of_cell? wc _ e0
      have hS0 : Six n g (k * 3) W H S A B C w5 wc.drew := ⟨b0, b1, b2, e0, e1, e2, hbc.drew⟩
      rename World => wd
      go_wp2_with fail
      go_cut [10, 11] from 200 (fun q c wc => q = .int .i64 (P : Nat) ∧ c = .bool true ∧ Six n g (k * 3) W H S A B C w5 wc)
      case first =>
        go_region_held3 (fun w' => w'.cell? ⟨n, 0, none⟩ = some (.int .i64 W) ∧ w'.cell? ⟨n, 1, none⟩ = some (.int .i64 H) ∧ w'.cell? ⟨n, 2, none⟩ = some (.int .i64 S) ∧ w'.cell? ⟨g, k * 3, none⟩ = some (.int .i64 A) ∧ w'.cell? ⟨g, k * 3 + 1, none⟩ = some (.int .i64 B) ∧ w'.cell? ⟨g, k * 3 + 2, none⟩ = some (.int .i64 C) ∧ Below w5.heap.size w5 w')
          (first | assumption | exact hS0 | exact Six.keep (by assumption) (by assumption))
          (first | (go_at_call 38; refine (HF.out.uj _).mono ?_; rintro e w1 ⟨rfl, hB1⟩))
        go_wp2
        go_meet
        case rel => exact ⟨rfl, rfl, by assumption⟩
      case rest =>
      clear b0 b1 b2 e0 e1 e2 hS0 hgw
      obtain ⟨rfl, rfl, b0, b1, b2, e0, e1, e2, hbc⟩ := hcut
      have hgw : g < wc.heap.size := World.block_lt_of_cell? wc _ e0
      have hS0 : Six n g (k * 3) W H S A B C w5 wc.drew := ⟨b0, b1, b2, e0, e1, e2, hbc.drew⟩
      rename World => wd2
      go_wp2_with fail
      go_cut [105] from 200 (fun c wc => c = .bool false ∧ Below w5.heap.size w5 wc)
      case first =>
        go_region_held3 (fun w' => w'.cell? ⟨n, 0, none⟩ = some (.int .i64 W) ∧ w'.cell? ⟨n, 1, none⟩ = some (.int .i64 H) ∧ w'.cell? ⟨n, 2, none⟩ = some (.int .i64 S) ∧ w'.cell? ⟨g, k * 3, none⟩ = some (.int .i64 A) ∧ w'.cell? ⟨g, k * 3 + 1, none⟩ = some (.int .i64 B) ∧ w'.cell? ⟨g, k * 3 + 2, none⟩ = some (.int .i64 C) ∧ Below w5.heap.size w5 w')
          (first | assumption | exact hS0 | exact Six.keep (by assumption) (by assumption))
          (first
            | (go_at_call_of 39 (Value.int .i64 (Q : Int)); refine (HF.out.cq _).mono ?_; rintro e w1 ⟨rfl, hB1⟩)
            | (go_at_call_of 39 (Value.int .i64 (P : Int)); refine (HF.out.cp _).mono ?_; rintro e w1 ⟨rfl, hB1⟩)
            | (go_at_call 40; refine (HF.out.cj _).mono ?_; rintro e w1 ⟨rfl, hB1⟩)
            | (go_at_call_of 41 (Value.int .i64 (Q : Int)); refine (HF.out.cu _).mono ?_; rintro e w1 ⟨rfl, hB1⟩)
            | (go_at_call_of 41 (Value.int .i64 (P : Int)); refine (HF.out.cn _).mono ?_; rintro e w1 ⟨rfl, hB1⟩))
        go_wp2
        go_meet
        case rel =>
          have hfin : Six n g (k * 3) W H S A B C w5 w1 := by assumption
          exact ⟨rfl, hfin.2.2.2.2.2.2⟩
      case rest =>
      obtain ⟨rfl, hbc⟩ := hcut
      go_wp2
      go_roundw
      case rel => exact ⟨k + 1, by omega, by go_num, hbc⟩
      case measure => simp [intOf]; omega
    · have hI1 : ¬ (k : Int) < (J : Int) := by omega
      have b0 := cell_kept b0 hb
      have b1 := cell_kept b1 hb
      have b2 := cell_kept b2 hb
      replace hBel := Lib.hid (hBel.out.andThen hb)
      replace HAT2 := Lib.hid (HAT2.out.kept hb)
      clear hb HAT1 HJF
      rename World => w6
      go_wp2_with fail
      go_loopw [12] (fun j wr => ∃ k : Nat, k ≤ U ∧ j = .int .i64 k ∧ Below w6.heap.size w6 wr) (fun j _ => U - (intOf j).toNat)
      case atStart => exact ⟨0, by omega, rfl, Below.refl _ _⟩
      case round =>
        obtain ⟨k, hk, rfl, hb⟩ := hrel
        by_cases hlt : k < U
        · have hlk : k < us.length := by rw [HU.out]; exact hlt
          obtain ⟨l, hl⟩ : ∃ l, us[k]? = some l := ⟨us[k], List.getElem?_eq_getElem hlk⟩
          rcases HAT2.out with h0 | ⟨g, rfl, hat⟩
          · omega
          obtain ⟨e0, e1, e2⟩ := hat k l hl
          obtain ⟨A, B, C, Q, rfl, fit⟩ := HUF.out k l hl
          dsimp only at e0 e1 e2
          replace b0 := cell_kept b0 hb
          replace b1 := cell_kept b1 hb
          replace b2 := cell_kept b2 hb
          replace e0 := cell_kept e0 hb
          replace e1 := cell_kept e1 hb
          replace e2 := cell_kept e2 hb
          have HF := Lib.hid fit
          have hgw : g < wr.heap.size := World.block_lt_of_cell? wr _ e0
          have hI0 : (0 : Int) ≤ (k : Int) := by omega
          have hS0 : Six n g (k * 3) W H S A B C w6 wr.drew := ⟨b0, b1, b2, e0, e1, e2, hb.drew⟩
          clear hat hl hlk fit
          have hI1 : (k : Int) < (U : Int) := by omega
          go_wp2_with fail
          go_cut [13, 14] from 200 (fun q c wc => q = .int .i64 (Q : Nat) ∧ c = .bool true ∧ Six n g (k * 3) W H S A B C w6 wc)
          case first =>
            go_region_held3 (fun w' => w'.cell? ⟨n, 0, none⟩ = some (.int .i64 W) ∧ w'.cell? ⟨n, 1, none⟩ = some (.int .i64 H) ∧ w'.cell? ⟨n, 2, none⟩ = some (.int .i64 S) ∧ w'.cell? ⟨g, k * 3, none⟩ = some (.int .i64 A) ∧ w'.cell? ⟨g, k * 3 + 1, none⟩ = some (.int .i64 B) ∧ w'.cell? ⟨g, k * 3 + 2, none⟩ = some (.int .i64 C) ∧ Below w6.heap.size w6 w')
              (first | assumption | exact hS0 | exact Six.keep (by assumption) (by assumption))
              (first | (go_at_call 38; refine (HF.out.uj _).mono ?_; rintro e w1 ⟨rfl, hB1⟩))
            go_wp2
            go_meet
            case rel => exact ⟨rfl, rfl, by assumption⟩
          case rest =>
          clear b0 b1 b2 e0 e1 e2 hS0 hgw
          obtain ⟨rfl, rfl, b0, b1, b2, e0, e1, e2, hbc⟩ := hcut
          have hgw : g < wc.heap.size := World.block_lt_of_cell? wc _ e0
          have hS0 : Six n g (k * 3) W H S A B C w6 wc.drew := ⟨b0, b1, b2, e0, e1, e2, hbc.drew⟩
          rename World => wd
          go_wp2_with fail
          go_cut [15, 16] from 200 (fun q c wc => q = .int .i64 (P : Nat) ∧ c = .bool true ∧ Six n g (k * 3) W H S A B C w6 wc)
          case first =>
            go_region_held3 (fun w' => w'.cell? ⟨n, 0, none⟩ = some (.int .i64 W) ∧ w'.cell? ⟨n, 1, none⟩ = some (.int .i64 H) ∧ w'.cell? ⟨n, 2, none⟩ = some (.int .i64 S) ∧ w'.cell? ⟨g, k * 3, none⟩ = some (.int .i64 A) ∧ w'.cell? ⟨g, k * 3 + 1, none⟩ = some (.int .i64 B) ∧ w'.cell? ⟨g, k * 3 + 2, none⟩ = some (.int .i64 C) ∧ Below w6.heap.size w6 w')
              (first | assumption | exact hS0 | exact Six.keep (by assumption) (by assumption))
              (first | (go_at_call 37; refine (HF.out.dj _).mono ?_; rintro e w1 ⟨rfl, hB1⟩))
            go_wp2
            go_meet
            case rel => exact ⟨rfl, rfl, by assumption⟩
          case rest =>
          clear b0 b1 b2 e0 e1 e2 hS0 hgw
          obtain ⟨rfl, rfl, b0, b1, b2, e0, e1, e2, hbc⟩ := hcut
          have hgw : g < wc.heap.size := World.block_lt_of_cell? wc _ e0
          have hS0 : Six n g (k * 3) W H S A B C w6 wc.drew := ⟨b0, b1, b2, e0, e1, e2, hbc.drew⟩
          rename World => wd2
          go_wp2
          go_roundw
          case rel => exact ⟨k + 1, by omega, by go_num, hbc⟩
          case measure => simp [intOf]; omega
        · have hI1 : ¬ (k : Int) < (U : Int) := by omega
          replace b0 := cell_kept b0 hb
          replace b1 := cell_kept b1 hb
          replace b2 := cell_kept b2 hb
          replace hBel := Lib.hid (hBel.out.andThen hb)
          clear hb HAT2 HUF
          go_wp2_with fail
          refine (HsJ.out _).mono ?_
          rintro e w7 ⟨p3, cp3, rfl, _, hB7⟩
          replace b0 := cell_kept b0 hB7
          replace b1 := cell_kept b1 hB7
          replace b2 := cell_kept b2 hB7
          replace hBel := Lib.hid (hBel.out.andThen hB7)
          clear hB7
          go_wp2_with fail
          refine (HsU.out _).mono ?_
          rintro e w8 ⟨p4, cp4, rfl, _, hB8⟩
          replace hBel := Lib.hid (hBel.out.andThen hB8)
          clear hB8 b0 b1 b2
          go_wp2_with fail
          refine (rect3_any _).mono ?_
          rintro e w9 ⟨rfl, hB9⟩
          replace hBel := Lib.hid (hBel.out.andThen hB9)
          clear hB9
          go_wp2_with fail
          refine (jumps3_any _).mono ?_
          rintro e w10 ⟨p5, cp5, rfl, hB10⟩
          replace hBel := Lib.hid (hBel.out.andThen hB10)
          clear hB10
          go_wp2
          go_ret
          exact ⟨rfl, hBel.out⟩
end Go.Proofs.Ytoipnooncnpndaa

