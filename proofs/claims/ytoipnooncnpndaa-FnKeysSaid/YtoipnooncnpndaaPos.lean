/-
  The draws of a board and of a position.
-/
import Derived.Test.YtoipnooncnpndaaSmall
import Derived.Test.YtoipnooncnpndaaHeld
import Derived.Test.YtoipnooncnpndaaLawI
import Derived.Test.YtoipnooncnpndaaAt
namespace Go.Proofs.Ytoipnooncnpndaa
open Go.RowKit
open Peg
set_option linter.unusedVariables false
set_option linter.unusedSimpArgs false

theorem hole_at {W H S : Nat} (ok : Ok W H S) (j : Nat) (hj : j < (holesL W H S).length) : ∃ K : Nat, (holesL W H S)[j]?.getD 0 = (K : Int) ∧ K < W * H ∧ K ≤ 48 ∧ S.testBit K = true := by
  rw [holesL_ok ok] at hj ⊢
  have hm : (bitsTo S (W * H))[j] ∈ bitsTo S (W * H) := List.getElem_mem hj
  rw [List.getElem?_eq_getElem hj]
  generalize (bitsTo S (W * H))[j] = x at hm ⊢
  unfold bitsTo at hm
  rw [List.mem_map] at hm
  obtain ⟨K, hK, rfl⟩ := hm
  rw [List.mem_filter, List.mem_range] at hK
  have := ok.area
  exact ⟨K, rfl, hK.1, by omega, hK.2⟩
theorem or_sub {P S K : Nat} (h : P &&& S = P) (hb : S.testBit K = true) : (P ||| 2 ^ K) &&& S = P ||| 2 ^ K := by
  apply Nat.eq_of_testBit_eq
  intro i
  have hi := congrArg (fun x => x.testBit i) h
  simp only [Nat.testBit_and, Nat.testBit_or, Nat.testBit_two_pow] at hi ⊢
  by_cases hk : K = i
  · subst hk; simp [hb]
  · simp only [hk, decide_false, Bool.or_false]; exact hi
theorem or_lt49 {P K : Nat} (h : P < 2 ^ 49) (hk : K ≤ 48) : P ||| 2 ^ K < 2 ^ 49 := Nat.or_lt_two_pow h (Nat.pow_lt_pow_right (by decide) (by omega))

set_option maxHeartbeats 800000 in
theorem l04Some_any (n : Nat) (ad : Option Addr) (len cap W H S : Nat) (ok : Ok W H S) (w : World) (hc : Cur n ad len cap w) :
    Calls Try.prog 67 #[.pointer (some ⟨n, 0, none⟩), .agg #[.int .i64 W, .int .i64 H, .int .i64 S]] w fun e w' => ∃ P : Nat, P &&& S = P ∧ e = .returned (.int .i64 P) ∧ Drew n ad len cap w w' := by
  have hn := hc.sz
  have D0 := (Drew.refl hc).more (below1 w (.cells #[.int .i64 W, .int .i64 H, .int .i64 S] 26))
  have HD0 := Lib.hid D0
  have HS := Lib.hid ok.lt
  have hat := fun j hj => hole_at ok j hj
  have hl49 : (holesL W H S).length ≤ 49 := holesL_short W H S
  have hh := fun w => specHolesOf_any (W : Int) (H : Int) (S : Int) w
  clear D0 ok
  generalize holesL W H S = xs at hat hl49 hh
  have HAT := Lib.hid hat
  have HH := Lib.hid hh
  clear hat hh
  go_enter Try.func67, Try.ntmps67
  go_wp2_with fail
  refine (HH.out _).mono ?_
  rintro e w1 hr
  obtain ⟨v, rfl, hr1, hB1⟩ := hr
  have D1 := HD0.out.more hB1
  have HD1 := Lib.hid D1
  have hc1 := D1.cur
  have HC1 := Lib.hid hc1
  clear hB1 HD0 D1 hc1 hc
  rcases hr1.forms with ⟨h0, q, cp, rfl⟩ | ⟨hx, g, cp, rfl, hg1, hg2, _⟩
  · clear hr1
    go_wp2_with fail
    refine wp_loop_rounds 1 ?_
    rw [rounds_succ]
    go_wp2_with fail
    go_ret
    exact ⟨0, by simp, rfl, HD1.out⟩
  have hgw : w.heap.size < g := by simp at hg1; omega
  have hgn : g ≠ n := by omega
  obtain ⟨L, hL⟩ : ∃ L, xs.length = L := ⟨_, rfl⟩
  rw [hL] at hl49 hr1 ⊢
  have HR := Lib.hid hr1
  have HL := Lib.hid hL
  clear hr1 hL hx
  go_wp2_with fail
  go_loopw [5, 7] (fun p j wr => ∃ k P : Nat, k ≤ L ∧ j = .int .i64 k ∧ p = .int .i64 P ∧ P &&& S = P ∧ P < 2 ^ 49 ∧ Drew n ad len cap w1 wr) (fun _ j _ => L - (intOf j).toNat)
  case atStart => exact ⟨0, 0, by omega, rfl, rfl, by simp, by decide, Drew.refl HC1.out⟩
  case round =>
    obtain ⟨k, P, hk, rfl, rfl, hsub, hP, hD⟩ := hrel
    have HSUB := Lib.hid hsub
    have HP := Lib.hid hP
    clear hsub hP
    by_cases hlt : k < L
    · have hI0 : (0 : Int) ≤ (k : Int) := by omega
      have hI1 : (k : Int) < (L : Int) := by omega
      go_wp2_with fail
      refine (l01Below_any n ad len cap 3 (by decide) _ hD.cur).mono ?_
      rintro e w2 ⟨r, hr0, hr1, _, _, rfl, hD2⟩
      have hD3 := hD.trans hD2
      have HD3 := Lib.hid hD3
      clear hD hD2 hr1
      by_cases hr : 0 < r
      · obtain ⟨K, hK0, _, hK, hKb⟩ := HAT.out k (by rw [HL.out]; exact hlt)
        have hc0 : w1.cell? ⟨g, k, none⟩ = some (.int .i64 K) := by
          have hR := HR.out
          have e := hR
          rw [← HL.out] at e
          have := RowI.at e k (by rw [HL.out]; exact hlt)
          rw [hK0] at this
          exact this
        have hc2 := hD3.gr.cell hc0 (by simp; omega)
        have q1 := set_or P K (Nat.lt_trans HP.out (by decide)) hK
        have hN := Lib.hid (or_sub HSUB.out hKb)
        have hNP := Lib.hid (or_lt49 HP.out hK)
        obtain ⟨P', hP'⟩ : ∃ P', P ||| 2 ^ K = P' := ⟨_, rfl⟩
        rw [hP'] at q1 hN hNP
        have hwK : IntKind.i64.wrap (K : Int) = (K : Int) := Bit.i64_wrap _ (by omega) (by omega)
        have hK0 : (0 : Int) ≤ (K : Int) := by omega
        clear hKb hP' hD3 hc0
        go_wp2
        go_roundw
        case rel => exact ⟨k + 1, P', by omega, by go_num, rfl, hN.out, hNP.out, HD3.out⟩
        case measure => simp [intOf]; omega
      · clear hD3
        go_wp2
        go_roundw
        case rel => exact ⟨k + 1, P, by omega, by go_num, rfl, HSUB.out, HP.out, HD3.out⟩
        case measure => simp [intOf]; omega
    · have hI1 : ¬ (k : Int) < (L : Int) := by omega
      have HD := Lib.hid (HD1.out.trans hD)
      clear hD
      go_wp2
      go_ret
      exact ⟨P, HSUB.out, rfl, HD.out⟩

theorem set3_below {w wr : World} (h : Below w.heap.size w wr) (v0 v1 v2 : Value) : Below w.heap.size w (((wr.setCell ⟨w.heap.size, 0, none⟩ v0).setCell ⟨w.heap.size, 1, none⟩ v1).setCell ⟨w.heap.size, 2, none⟩ v2) :=
  ((h.setCell (Nat.le_refl _) _).setCell (Nat.le_refl _) _).setCell (Nat.le_refl _) _

/-- A small board that is drawn out of the bytes handed in. -/
theorem DrawBoard_any (ad : Option Addr) (len cap : Nat) (hlen : len ≤ 1048576) (w : World) (h : IsCode w ad len) :
    Calls Try.prog 16 #[.slice ad len cap] w fun e w' => ∃ W H S : Nat, Ok W H S ∧ e = .returned (.agg #[.int .i64 W, .int .i64 H, .int .i64 S]) ∧ Below w.heap.size w w' := by
  have Z0 := Zero3.new w 26
  have b0 := below1 w (.cells #[.int .i64 0, .int .i64 0, .int .i64 0] 26)
  have hz : w.heap.size < (w.alloc (.cells #[.int .i64 0, .int .i64 0, .int .i64 0] 26)).heap.size := by simp
  have HC := Lib.hid (h.kept b0)
  have HB0 := Lib.hid b0
  clear h b0
  go_enter Try.func16, Try.ntmps16
  go_wp2_with fail
  refine (l01New_any ad len cap hlen _ HC.out).mono ?_
  rintro e w1 hr
  obtain ⟨n, rfl, hn, hc1, hB1⟩ := hr
  have Z1 := Z0.below hB1
  have hBel1 := HB0.out.andThen hB1
  have hz1 := hB1.size
  clear hB1 Z0 HC
  go_wp2_with fail
  refine (l02Small_any n ad len cap _ hc1).mono ?_
  rintro e w2 hr
  obtain ⟨W, H, S, ok, hW5, hH4, rfl, hD⟩ := hr
  have Z2 := Z1.grown hD.gr (by simp; omega)
  have hBel := Lib.hid (hBel1.trans (hD.below (by omega) (by omega)))
  have HOK := Lib.hid ok
  clear hD hBel1 Z1 hc1 ok
  obtain ⟨r0, r1, r2, g0, g1, g2, sz⟩ := Z2
  go_wp2
  obtain ⟨q0, q1, q2⟩ := read3 (.int .i64 W) (.int .i64 H) (.int .i64 S) r0 r1 r2
  refine bodyPost_ret (v := .agg #[.int .i64 W, .int .i64 H, .int .i64 S]) (by simp [results, Try.results16, go_sem, q0, q1, q2]) rfl ⟨W, H, S, HOK.out, rfl, set3_below hBel.out _ _ _⟩

set_option maxHeartbeats 800000 in
theorem DrawPosition_any (ad : Option Addr) (len cap : Nat) (hlen : len ≤ 1048576) (w : World) (h : IsCode w ad len) :
    Calls Try.prog 26 #[.slice ad len cap] w fun e w' => ∃ W H S P : Nat, Ok W H S ∧ P &&& S = P ∧ e = .returned (.tuple #[.agg #[.int .i64 W, .int .i64 H, .int .i64 S], .int .i64 P]) ∧ Below w.heap.size w w' := by
  have Z0 := Zero3.new w 26
  have b0 := below1 w (.cells #[.int .i64 0, .int .i64 0, .int .i64 0] 26)
  have hz : w.heap.size < (w.alloc (.cells #[.int .i64 0, .int .i64 0, .int .i64 0] 26)).heap.size := by simp
  have HC := Lib.hid (h.kept b0)
  have HB0 := Lib.hid b0
  clear h b0
  go_enter Try.func26, Try.ntmps26
  go_wp2_with fail
  refine (l01New_any ad len cap hlen _ HC.out).mono ?_
  rintro e w1 hr
  obtain ⟨n, rfl, hn, hc1, hB1⟩ := hr
  have Z1 := Z0.below hB1
  have hBel1 := HB0.out.andThen hB1
  have hz1 := hB1.size
  clear hB1 Z0 HC
  go_wp2_with fail
  refine (l02Small_any n ad len cap _ hc1).mono ?_
  rintro e w2 hr
  obtain ⟨W, H, S, ok, hW5, hH4, rfl, hD⟩ := hr
  have Z2 := Z1.grown hD.gr (by simp; omega)
  have hBel2 := hBel1.trans (hD.below (by omega) (by omega))
  have hc2 := hD.cur
  have HOK := Lib.hid ok
  clear hD hBel1 Z1 hc1 ok
  have X2 := BoxAt.new w2 W H S 26
  have b2 := below1 w2 (.cells #[.int .i64 W, .int .i64 H, .int .i64 S] 26)
  have Z3 := Z2.below b2
  have hc3 := hc2.kept b2
  have hBel3 := Lib.hid (hBel2.andThen b2)
  have hnw := hc2.sz
  have hrw := Z2.sz
  have hnew : n ≠ w2.heap.size := by omega
  clear hBel2 Z2 hc2 b2
  go_wp2_with fail
  generalize w2.alloc (.cells #[.int .i64 W, .int .i64 H, .int .i64 S] 26) = w3 at X2 Z3 hc3 hBel3 ⊢
  obtain ⟨x0, x1, x2, xz⟩ := X2
  have Z4 := Z3.below (Below.drew (Below.refl _ _))
  have hc4 := hc3.kept (Below.drew (Below.refl _ _))
  have hBel4 := Lib.hid (hBel3.out.andThen (Below.drew (Below.refl _ _)))
  obtain ⟨b, hb⟩ : ∃ b, w2.heap.size = b := ⟨_, rfl⟩
  obtain ⟨r, hr⟩ : ∃ r, w.heap.size = r := ⟨_, rfl⟩
  have hrb : r < b := by omega
  have hrn : r < n := by simp at hn; omega
  rw [hb] at x0 x1 x2 xz hnew ⊢
  rw [hr] at Z4 ⊢
  clear Z3 hc3 hBel3
  have hS0 : w3.drew.cell? ⟨b, 0, none⟩ = some (.int .i64 W) ∧ w3.drew.cell? ⟨b, 1, none⟩ = some (.int .i64 H) ∧ w3.drew.cell? ⟨b, 2, none⟩ = some (.int .i64 S) := ⟨x0, x1, x2⟩
  go_region_held3 (fun w' : World => w'.cell? ⟨b, 0, none⟩ = some (.int .i64 W) ∧ w'.cell? ⟨b, 1, none⟩ = some (.int .i64 H) ∧ w'.cell? ⟨b, 2, none⟩ = some (.int .i64 S))
    (first | assumption | exact ⟨(World.cell?_setCell_far _ _ _ _ (by simp; omega)).trans ((World.cell?_setCell_far _ _ _ _ (by simp; omega)).trans ((World.cell?_setCell_far _ _ _ _ (by simp; omega)).trans hS5.1)), (World.cell?_setCell_far _ _ _ _ (by simp; omega)).trans ((World.cell?_setCell_far _ _ _ _ (by simp; omega)).trans ((World.cell?_setCell_far _ _ _ _ (by simp; omega)).trans hS5.2.1)), (World.cell?_setCell_far _ _ _ _ (by simp; omega)).trans ((World.cell?_setCell_far _ _ _ _ (by simp; omega)).trans ((World.cell?_setCell_far _ _ _ _ (by simp; omega)).trans hS5.2.2))⟩)
    (first | (go_at_call 67; refine (l04Some_any n ad len cap W H S HOK.out _ hc4).mono ?_; rintro e w5 ⟨P, hsub, rfl, hD5⟩; have HSUB := Lib.hid hsub; clear hsub; have hS5 : w5.cell? ⟨b, 0, none⟩ = some (.int .i64 W) ∧ w5.cell? ⟨b, 1, none⟩ = some (.int .i64 H) ∧ w5.cell? ⟨b, 2, none⟩ = some (.int .i64 S) := ⟨hD5.gr.cell x0 (by simp; omega), hD5.gr.cell x1 (by simp; omega), hD5.gr.cell x2 (by simp; omega)⟩; obtain ⟨r0, r1, r2, g0, g1, g2, sz⟩ := Z4.grown hD5.gr (by simp; omega); have hBel5 := Lib.hid (hBel4.out.trans (hD5.below (by have := hBel4.out.size; omega) (by omega))); clear hD5))
  go_wp2
  subst hr
  obtain ⟨q0, q1, q2⟩ := fin3 (.int .i64 W) (.int .i64 H) (.int .i64 S) r0 r1 r2
  refine bodyPost_ret (v := .tuple #[.agg #[.int .i64 W, .int .i64 H, .int .i64 S], .int .i64 P]) (by simp [results, Try.results26, go_sem, q0, q1, q2]) rfl ⟨W, H, S, P, HOK.out, HSUB.out, rfl, set3_below hBel5.out _ _ _⟩
end Go.Proofs.Ytoipnooncnpndaa
