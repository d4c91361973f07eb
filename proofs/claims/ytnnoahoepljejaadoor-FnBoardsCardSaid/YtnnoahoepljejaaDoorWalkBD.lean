/-
  The walk of the law FnBoards.
-/
import Derived.Test.YtnnoahoepljejaaDoorBoardLaw
import Derived.Deep.Cut
import Derived.Deep.CutRange
import Derived.Deep.RegionHeld3
import Derived.BigQuiet
import Derived.Deep.QuietTactic
namespace Go.Proofs.YtnnoahoepljejaaDoor
open Go.RowKit
open Peg
set_option linter.unusedVariables false
set_option linter.unusedSimpArgs false

theorem implRectB_ok (W H : Nat) (w1 : 1 ≤ W) (w7 : W ≤ 7) (h1 : 1 ≤ H) (h7 : H ≤ 7) (w : World) :
    Calls Tryd.prog 19 #[.int .i64 W, .int .i64 H] w fun e w' => e = .returned (.agg #[.int .i64 W, .int .i64 H, .int .i64 (2 ^ (W * H) - 1 : Nat)]) ∧ Below w.heap.size w w' := by
  have h := Rectangle_any W H w
  have e : rectOk W H = true := by simp [rectOk, inB]; omega
  have e2 : ((W : Int) * (H : Int)).toNat = W * H := by rw [← Int.natCast_mul, Int.toNat_natCast]
  have e3 : (2 : Int) ^ (W * H) - 1 = ((2 ^ (W * H) - 1 : Nat) : Int) := by
    have := Nat.two_pow_pos (W * H)
    rw [cast_pow]; omega
  simp only [rectW, rectH, rectS, e, if_true, e2, e3] at h
  exact h

/-- What the region reads: the board's box, the hole and the hole ahead of it. -/
def B5 (n g k j : Nat) (W H S K K' : Int) (w w' : World) : Prop :=
  w'.cell? ⟨n, 0, none⟩ = some (.int .i64 W) ∧ w'.cell? ⟨n, 1, none⟩ = some (.int .i64 H) ∧ w'.cell? ⟨n, 2, none⟩ = some (.int .i64 S) ∧
  w'.cell? ⟨g, k, none⟩ = some (.int .i64 K) ∧ w'.cell? ⟨g, j, none⟩ = some (.int .i64 K') ∧ Tab w' ∧ Below w.heap.size w w'
theorem B5.keep {n g k j : Nat} {W H S K K' : Int} {w w' w1 : World} (h : B5 n g k j W H S K K' w w') (hb : Below w'.heap.size w' w1) : B5 n g k j W H S K K' w w1 := by
  obtain ⟨h0, h1, h2, h3, h4, h5, h6⟩ := h
  exact ⟨cell_kept h0 hb, cell_kept h1 hb, cell_kept h2 hb, cell_kept h3 hb, cell_kept h4 hb, tab_kept h5 hb, h6.andThen hb⟩
theorem takeD {P : Program} {ops : Array Oper} {Q : Exit → Act → World → Prop} {md : Region.Mode} {S : World → Prop} {i : Nat} {oi : Oper} {d : Option Tmp} {v : Value} {fuel : Nat} {listed : Array Bool} {a : Act} {w : World} (hi : ops[i]? = some oi)
    (hs : Region.noSelect ops = true) (hf : Region.free md ops listed i = true) (hr : (Region.ready md ops listed).contains i = true) (hd : oi.dst = d)
    (hQ : ∀ c a w, Q (.panic c) (a.put d v) w → Q (.panic c) a w) (hy : YieldsIf P ops S oi v a) (hS : S w)
    (h : wpAnyH P md ops Q S fuel (listed.setIfInBounds i true) (a.put d v) w) : wpAnyH P md ops Q S (fuel + 1) listed a w := by
  subst hd
  exact wpAnyH_take hi hs hf hr hQ hy hS h
theorem B5.tab {n g k j : Nat} {W H S K K' : Int} {w w' : World} (h : B5 n g k j W H S K K' w w') : Tab w' := h.2.2.2.2.2.1

set_option maxHeartbeats 1600000 in
set_option maxRecDepth 100000 in
theorem walkFnBoards (ad : Option Addr) (len cap : Nat) (w : World) (h : IsCode w ad len) (htab : Tab w) :
    Calls Tryd.prog 3 #[.slice ad len cap] w fun e w' => e = .returned (.bool true) ∧ Below w.heap.size w w' := by
  have HC := Lib.hid h
  have HT := Lib.hid htab
  clear h htab
  by_cases hle : ¬ len ≤ 1048576
  · have hb : decide ((1048576 : Int) < (len : Int)) = true := by simp; omega
    go_enter Tryd.func3, Tryd.ntmps3
    go_wp2_with fail
    refine (big_any ad len cap true hb _).mono ?_
    rintro e w1 ⟨rfl, hw1⟩
    subst w1
    go_wp2
    go_ret
    exact ⟨rfl, Below.refl _ _⟩
  have hle : len ≤ 1048576 := by omega
  have hb : decide ((1048576 : Int) < (len : Int)) = false := by simp; omega
  have HLE := Lib.hid hle
  go_enter Tryd.func3, Tryd.ntmps3
  go_wp2_with fail
  refine (big_any ad len cap false hb _).mono ?_
  rintro e w1 ⟨rfl, hw1⟩
  subst w1
  clear hb hle
  go_wp2_with fail
  refine (DrawBoard_any ad len cap HLE.out _ HC.out).mono ?_
  rintro e w2 ⟨W, H, S, ok, rfl, hB2⟩
  have X2 := BoxAt.new w2 W H S 25
  have b2 := below1 w2 (.cells #[.int .i64 W, .int .i64 H, .int .i64 S] 25)
  have hC3 := Lib.hid ((HC.out.kept hB2).kept b2)
  have hT3 := Lib.hid (tab_kept (tab_kept HT.out hB2) b2)
  have hBel := Lib.hid (hB2.andThen b2)
  have HOK := Lib.hid ok
  obtain ⟨n, hn⟩ : ∃ n, w2.heap.size = n := ⟨_, rfl⟩
  rw [hn] at X2
  clear hB2 b2 HC HT ok
  go_wp2_with fail
  generalize w2.alloc (.cells #[.int .i64 W, .int .i64 H, .int .i64 S] 25) = w3 at X2 hC3 hT3 hBel ⊢
  clear hn
  refine (HolesOf_any _ _ _ _).mono ?_
  rintro e w4 hr
  obtain ⟨v, rfl, hr1, hB4⟩ := hr
  have hsum := sumN_full HOK.out
  have hcnt := holes_count HOK.out
  rcases hr1.forms with ⟨h0, _⟩ | ⟨hpos, g, cp, rfl, _, _, hl⟩
  · rw [h0] at hsum
    have := HOK.out.s1
    rw [← hsum] at this
    exact absurd this (by decide)
  have HAT := Lib.hid (fun j (hj : j < (holesL W H S).length) => show ∃ K : Nat, w4.cell? ⟨g, j, none⟩ = some (.int .i64 K) ∧ (holesL W H S)[j]? = some (K : Int) ∧ K < W * H ∧ K ≤ 48 ∧ S.testBit K = true by
    obtain ⟨K, e, h1, h2, h3⟩ := hole_at HOK.out j hj
    have hc := hr1.at j hj
    rw [e] at hc
    refine ⟨K, hc, ?_, h1, h2, h3⟩
    rw [List.getElem?_eq_getElem hj] at e ⊢
    exact congrArg some e)
  obtain ⟨xs, hxs⟩ : ∃ xs, holesL W H S = xs := ⟨_, rfl⟩
  have HUP := Lib.hid (fun (j : Nat) (hj : j + 1 < (holesL W H S).length) {K K' : Nat} h1 h2 => holes_up HOK.out j hj (K := K) (K' := K') h1 h2)
  have HSL := Lib.hid (fun k => sumN_le (holesL W H S) k)
  rw [hxs] at HAT HUP HSL hsum hcnt hpos hl ⊢
  have X4 := X2.below hB4
  replace hBel := Lib.hid (hBel.out.andThen hB4)
  have hC4 := Lib.hid (hC3.out.kept hB4)
  have hT4 := Lib.hid (tab_kept hT3.out hB4)
  have HSUM := Lib.hid hsum
  have HCNT := Lib.hid hcnt
  clear hr1 hB4 hxs X2 hC3 hT3 hsum hcnt
  obtain ⟨b0, b1, b2, bz⟩ := X4
  go_wp2_with fail
  go_loopw [5, 6] (fun s j wr => ∃ k : Nat, k ≤ xs.length ∧ j = .int .i64 k ∧ s = .int .i64 (sumN xs k) ∧ Below w4.heap.size w4 wr) (fun _ j _ => xs.length - (intOf j).toNat)
  case atStart => exact ⟨0, by omega, rfl, rfl, Below.refl _ _⟩
  case round =>
    obtain ⟨k, hk, rfl, rfl, hb⟩ := hrel
    have hxl := hl
    by_cases hlt : k < xs.length
    · obtain ⟨K, c0, hg, hK1, hK2, hK3⟩ := HAT.out k hlt
      have hI0 : (0 : Int) ≤ (k : Int) := by omega
      have hI1 : (k : Int) < (xs.length : Int) := by omega
      have hst := sumN_step xs k K hg
      have hSle := HSL.out (k + 1)
      rw [HSUM.out] at hSle
      have hSlt := HOK.out.lt
      obtain ⟨Y, hY⟩ : ∃ Y, sumN xs k = Y := ⟨_, rfl⟩
      obtain ⟨Z, hZ⟩ : ∃ Z, sumN xs (k + 1) = Z := ⟨_, rfl⟩
      obtain ⟨P, hP⟩ : ∃ P, 2 ^ K = P := ⟨_, rfl⟩
      rw [hY, hP] at hst
      rw [hZ] at hst hSle
      have hZlt : Z < 562949953421312 := Nat.lt_of_le_of_lt hSle (by simpa using hSlt)
      have hYP : (Y : Int) + (P : Int) = (Z : Int) := by omega
      have hZw : IntKind.i64.wrap (Z : Int) = Z := Bit.i64_wrap _ (by omega) (by omega)
      have hPw : IntKind.i64.wrap (P : Int) = P := Bit.i64_wrap _ (by omega) (by omega)
      have hP2 : (2 : Int) ^ K = (P : Int) := by rw [cast_pow, hP]
      have hK64 : K < 64 := by omega
      rw [hY]
      have HZ := Lib.hid hZ
      have hN1 := name_two HOK.out hK1 hK3
      have hh1 : hasB W H S K = true := (hasB_iff HOK.out K).2 ⟨K, rfl, hK1, hK3⟩
      have HNE := Lib.hid (fun (K' : Nat) (h1 : K' < W * H) h2 h3 => name_ne HOK.out hK1 hK3 (K' := K') h1 h2 h3)
      have HS1 := Lib.hid (fun w1 => specHasHole_b true W H S K hh1 w1)
      have HS2 := Lib.hid (fun w1 => HasHole_b true W H S K hh1 w1)
      have HHN := Lib.hid (fun w1 ht => HoleName_any W H S K w1 ht)
      obtain ⟨N1, hN⟩ : ∃ N1, holeT W H S K = N1 := ⟨_, rfl⟩
      rw [hN] at hN1 HNE HHN
      clear hZ hY hP hst hSle hSlt hN
      replace b0 := cell_kept b0 hb
      replace b1 := cell_kept b1 hb
      replace b2 := cell_kept b2 hb
      replace c0 := cell_kept c0 hb
      by_cases hk0 : k = 0
      · subst hk0
        have hk0i : ¬ (0 : Int) < (0 : Int) := by omega
        have hS0 : B5 n g 0 0 W H S K K w4 wr.drew := ⟨b0, b1, b2, c0, c0, tab_kept hT4.out hb.drew, hb.drew⟩
        clear hg HAT HUP HNE
        go_wp2_with fail
        go_cut [82] from 200 (fun c wc => c = .bool false ∧ B5 n g 0 0 W H S K K w4 wc)
        case first =>
          -- <HAND0>
          refine wp_region_held_drew (S := (fun w' => w'.cell? ⟨n, 0, none⟩ = some (.int .i64 W) ∧ w'.cell? ⟨n, 1, none⟩ = some (.int .i64 H) ∧ w'.cell? ⟨n, 2, none⟩ = some (.int .i64 S) ∧ w'.cell? ⟨g, 0, none⟩ = some (.int .i64 K) ∧ w'.cell? ⟨g, 0, none⟩ = some (.int .i64 K) ∧ Tab w' ∧ Below w4.heap.size w4 w')) (by kernel_rfl) hS0 (fun hHeld => ?_)
          (try dsimp only at hHeld)
          refine takeD (i := 0) (d := some 21) (v := .agg #[.int .i64 W, .int .i64 H, .int .i64 S]) rfl (by kernel_rfl) (by kernel_rfl) (by kernel_rfl) rfl (fun _ _ _ h => h) (Or.inl ⟨by kernel_rfl, fun w1 hS1 => by (try dsimp only at hS1); go_simp⟩) hHeld ?_
          (try simp only [Act.put, List.setIfInBounds_toArray, List.set_cons_zero, List.set_cons_succ])
          refine takeD (i := 1) (d := some 22) (v := .slice (some ⟨g, 0, none⟩) xs.length cp) rfl (by kernel_rfl) (by kernel_rfl) (by kernel_rfl) rfl (fun _ _ _ h => h) (Or.inl ⟨by kernel_rfl, fun w1 hS1 => by rfl⟩) hHeld ?_
          (try simp only [Act.put, List.setIfInBounds_toArray, List.set_cons_zero, List.set_cons_succ])
          refine takeD (i := 2) (d := some 23) (v := .int .i64 0) rfl (by kernel_rfl) (by kernel_rfl) (by kernel_rfl) rfl (fun _ _ _ h => h) (Or.inl ⟨by kernel_rfl, fun w1 hS1 => by rfl⟩) hHeld ?_
          (try simp only [Act.put, List.setIfInBounds_toArray, List.set_cons_zero, List.set_cons_succ])
          refine takeD (i := 3) (d := some 24) (v := .pointer (some ⟨g, 0, none⟩)) rfl (by kernel_rfl) (by kernel_rfl) (by kernel_rfl) rfl (fun _ _ _ h => h) (Or.inl ⟨by kernel_rfl, fun w1 hS1 => by (try dsimp only at hS1); go_simp⟩) hHeld ?_
          (try simp only [Act.put, List.setIfInBounds_toArray, List.set_cons_zero, List.set_cons_succ])
          refine takeD (i := 4) (d := some 25) (v := .int .i64 K) rfl (by kernel_rfl) (by kernel_rfl) (by kernel_rfl) rfl (fun _ _ _ h => h) (Or.inl ⟨by kernel_rfl, fun w1 hS1 => by (try dsimp only at hS1); go_simp⟩) hHeld ?_
          (try simp only [Act.put, List.setIfInBounds_toArray, List.set_cons_zero, List.set_cons_succ])
          refine wpAnyH_ready (rs := [5]) (by kernel_rfl) (by simp) ?_
          refine AllReadyH.cons rfl (fun K hK => ?_) AllReadyH.nil
          go_simp
          go_at_call 13
          refine (HS1.out _).mono ?_
          rintro e w1 ⟨rfl, hB1⟩
          (try go_simp)
          refine hK.out _ _ (B5.keep hHeld hB1) (fun hHeld => ?_)
          clear hK K
          (try simp only [Act.put, List.setIfInBounds_toArray, List.set_cons_zero, List.set_cons_succ])
          (try dsimp only at hHeld)
          refine takeD (i := 6) (d := some 27) (v := .bool false) rfl (by kernel_rfl) (by kernel_rfl) (by kernel_rfl) rfl (fun _ _ _ h => h) (Or.inl ⟨by kernel_rfl, fun w1 hS1 => by first | rfl | ((try dsimp only at hS1); go_simp)⟩) hHeld ?_
          (try simp only [Act.put, List.setIfInBounds_toArray, List.set_cons_zero, List.set_cons_succ])
          refine takeD (i := 7) (d := some 28) (v := .bool false) rfl (by kernel_rfl) (by kernel_rfl) (by kernel_rfl) rfl (fun _ _ _ h => h) (Or.inl ⟨by kernel_rfl, fun w1 hS1 => by rfl⟩) hHeld ?_
          (try simp only [Act.put, List.setIfInBounds_toArray, List.set_cons_zero, List.set_cons_succ])
          refine takeD (i := 8) (d := some 29) (v := .agg #[.int .i64 W, .int .i64 H, .int .i64 S]) rfl (by kernel_rfl) (by kernel_rfl) (by kernel_rfl) rfl (fun _ _ _ h => h) (Or.inl ⟨by kernel_rfl, fun w1 hS1 => by (try dsimp only at hS1); go_simp⟩) hHeld ?_
          (try simp only [Act.put, List.setIfInBounds_toArray, List.set_cons_zero, List.set_cons_succ])
          refine takeD (i := 9) (d := some 30) (v := .slice (some ⟨g, 0, none⟩) xs.length cp) rfl (by kernel_rfl) (by kernel_rfl) (by kernel_rfl) rfl (fun _ _ _ h => h) (Or.inl ⟨by kernel_rfl, fun w1 hS1 => by rfl⟩) hHeld ?_
          (try simp only [Act.put, List.setIfInBounds_toArray, List.set_cons_zero, List.set_cons_succ])
          refine takeD (i := 10) (d := some 31) (v := .int .i64 0) rfl (by kernel_rfl) (by kernel_rfl) (by kernel_rfl) rfl (fun _ _ _ h => h) (Or.inl ⟨by kernel_rfl, fun w1 hS1 => by rfl⟩) hHeld ?_
          (try simp only [Act.put, List.setIfInBounds_toArray, List.set_cons_zero, List.set_cons_succ])
          refine takeD (i := 11) (d := some 32) (v := .pointer (some ⟨g, 0, none⟩)) rfl (by kernel_rfl) (by kernel_rfl) (by kernel_rfl) rfl (fun _ _ _ h => h) (Or.inl ⟨by kernel_rfl, fun w1 hS1 => by (try dsimp only at hS1); go_simp⟩) hHeld ?_
          (try simp only [Act.put, List.setIfInBounds_toArray, List.set_cons_zero, List.set_cons_succ])
          refine takeD (i := 12) (d := some 33) (v := .int .i64 K) rfl (by kernel_rfl) (by kernel_rfl) (by kernel_rfl) rfl (fun _ _ _ h => h) (Or.inl ⟨by kernel_rfl, fun w1 hS1 => by (try dsimp only at hS1); go_simp⟩) hHeld ?_
          (try simp only [Act.put, List.setIfInBounds_toArray, List.set_cons_zero, List.set_cons_succ])
          refine wpAnyH_ready (rs := [13]) (by kernel_rfl) (by simp) ?_
          refine AllReadyH.cons rfl (fun K hK => ?_) AllReadyH.nil
          go_simp
          go_at_call 14
          refine (HS2.out _).mono ?_
          rintro e w1 ⟨rfl, hB1⟩
          (try go_simp)
          refine hK.out _ _ (B5.keep hHeld hB1) (fun hHeld => ?_)
          clear hK K
          (try simp only [Act.put, List.setIfInBounds_toArray, List.set_cons_zero, List.set_cons_succ])
          (try dsimp only at hHeld)
          refine takeD (i := 14) (d := some 35) (v := .bool false) rfl (by kernel_rfl) (by kernel_rfl) (by kernel_rfl) rfl (fun _ _ _ h => h) (Or.inl ⟨by kernel_rfl, fun w1 hS1 => by first | rfl | ((try dsimp only at hS1); go_simp)⟩) hHeld ?_
          (try simp only [Act.put, List.setIfInBounds_toArray, List.set_cons_zero, List.set_cons_succ])
          refine takeD (i := 15) (d := some 36) (v := .bool false) rfl (by kernel_rfl) (by kernel_rfl) (by kernel_rfl) rfl (fun _ _ _ h => h) (Or.inl ⟨by kernel_rfl, fun w1 hS1 => by rfl⟩) hHeld ?_
          (try simp only [Act.put, List.setIfInBounds_toArray, List.set_cons_zero, List.set_cons_succ])
          refine takeD (i := 16) (d := some 37) (v := .bool false) rfl (by kernel_rfl) (by kernel_rfl) (by kernel_rfl) rfl (fun _ _ _ h => h) (Or.inl ⟨by kernel_rfl, fun w1 hS1 => by rfl⟩) hHeld ?_
          (try simp only [Act.put, List.setIfInBounds_toArray, List.set_cons_zero, List.set_cons_succ])
          refine takeD (i := 17) (d := some 38) (v := .int .i64 0) rfl (by kernel_rfl) (by kernel_rfl) (by kernel_rfl) rfl (fun _ _ _ h => h) (Or.inl ⟨by kernel_rfl, fun w1 hS1 => by rfl⟩) hHeld ?_
          (try simp only [Act.put, List.setIfInBounds_toArray, List.set_cons_zero, List.set_cons_succ])
          refine takeD (i := 18) (d := some 39) (v := .bool false) rfl (by kernel_rfl) (by kernel_rfl) (by kernel_rfl) rfl (fun _ _ _ h => h) (Or.inl ⟨by kernel_rfl, fun w1 hS1 => by (try dsimp only at hS1); go_simp⟩) hHeld ?_
          (try simp only [Act.put, List.setIfInBounds_toArray, List.set_cons_zero, List.set_cons_succ])
          refine takeD (i := 19) (d := some 40) (v := .bool false) rfl (by kernel_rfl) (by kernel_rfl) (by kernel_rfl) rfl (fun _ _ _ h => h) (Or.inl ⟨by kernel_rfl, fun w1 hS1 => by rfl⟩) hHeld ?_
          (try simp only [Act.put, List.setIfInBounds_toArray, List.set_cons_zero, List.set_cons_succ])
          refine takeD (i := 20) (d := some 41) (v := undef) rfl (by kernel_rfl) (by kernel_rfl) (by kernel_rfl) rfl (fun _ _ _ h => h) (Or.inr ⟨by kernel_rfl, rfl⟩) hHeld ?_
          (try simp only [Act.put, List.setIfInBounds_toArray, List.set_cons_zero, List.set_cons_succ])
          refine takeD (i := 21) (d := some 42) (v := undef) rfl (by kernel_rfl) (by kernel_rfl) (by kernel_rfl) rfl (fun _ _ _ h => h) (Or.inr ⟨by kernel_rfl, rfl⟩) hHeld ?_
          (try simp only [Act.put, List.setIfInBounds_toArray, List.set_cons_zero, List.set_cons_succ])
          refine takeD (i := 22) (d := some 43) (v := undef) rfl (by kernel_rfl) (by kernel_rfl) (by kernel_rfl) rfl (fun _ _ _ h => h) (Or.inr ⟨by kernel_rfl, rfl⟩) hHeld ?_
          (try simp only [Act.put, List.setIfInBounds_toArray, List.set_cons_zero, List.set_cons_succ])
          refine takeD (i := 23) (d := some 44) (v := undef) rfl (by kernel_rfl) (by kernel_rfl) (by kernel_rfl) rfl (fun _ _ _ h => h) (Or.inr ⟨by kernel_rfl, rfl⟩) hHeld ?_
          (try simp only [Act.put, List.setIfInBounds_toArray, List.set_cons_zero, List.set_cons_succ])
          refine takeD (i := 24) (d := some 45) (v := undef) rfl (by kernel_rfl) (by kernel_rfl) (by kernel_rfl) rfl (fun _ _ _ h => h) (Or.inr ⟨by kernel_rfl, rfl⟩) hHeld ?_
          (try simp only [Act.put, List.setIfInBounds_toArray, List.set_cons_zero, List.set_cons_succ])
          refine takeD (i := 25) (d := some 46) (v := undef) rfl (by kernel_rfl) (by kernel_rfl) (by kernel_rfl) rfl (fun _ _ _ h => h) (Or.inr ⟨by kernel_rfl, rfl⟩) hHeld ?_
          (try simp only [Act.put, List.setIfInBounds_toArray, List.set_cons_zero, List.set_cons_succ])
          refine takeD (i := 26) (d := some 47) (v := undef) rfl (by kernel_rfl) (by kernel_rfl) (by kernel_rfl) rfl (fun _ _ _ h => h) (Or.inr ⟨by kernel_rfl, rfl⟩) hHeld ?_
          (try simp only [Act.put, List.setIfInBounds_toArray, List.set_cons_zero, List.set_cons_succ])
          refine takeD (i := 27) (d := some 48) (v := undef) rfl (by kernel_rfl) (by kernel_rfl) (by kernel_rfl) rfl (fun _ _ _ h => h) (Or.inr ⟨by kernel_rfl, rfl⟩) hHeld ?_
          (try simp only [Act.put, List.setIfInBounds_toArray, List.set_cons_zero, List.set_cons_succ])
          refine takeD (i := 28) (d := some 49) (v := undef) rfl (by kernel_rfl) (by kernel_rfl) (by kernel_rfl) rfl (fun _ _ _ h => h) (Or.inr ⟨by kernel_rfl, rfl⟩) hHeld ?_
          (try simp only [Act.put, List.setIfInBounds_toArray, List.set_cons_zero, List.set_cons_succ])
          refine takeD (i := 29) (d := some 50) (v := undef) rfl (by kernel_rfl) (by kernel_rfl) (by kernel_rfl) rfl (fun _ _ _ h => h) (Or.inr ⟨by kernel_rfl, rfl⟩) hHeld ?_
          (try simp only [Act.put, List.setIfInBounds_toArray, List.set_cons_zero, List.set_cons_succ])
          refine takeD (i := 30) (d := some 51) (v := .bool false) rfl (by kernel_rfl) (by kernel_rfl) (by kernel_rfl) rfl (fun _ _ _ h => h) (Or.inl ⟨by kernel_rfl, fun w1 hS1 => by rfl⟩) hHeld ?_
          (try simp only [Act.put, List.setIfInBounds_toArray, List.set_cons_zero, List.set_cons_succ])
          refine takeD (i := 31) (d := some 52) (v := .bool false) rfl (by kernel_rfl) (by kernel_rfl) (by kernel_rfl) rfl (fun _ _ _ h => h) (Or.inl ⟨by kernel_rfl, fun w1 hS1 => by rfl⟩) hHeld ?_
          (try simp only [Act.put, List.setIfInBounds_toArray, List.set_cons_zero, List.set_cons_succ])
          refine takeD (i := 32) (d := some 53) (v := .bool false) rfl (by kernel_rfl) (by kernel_rfl) (by kernel_rfl) rfl (fun _ _ _ h => h) (Or.inl ⟨by kernel_rfl, fun w1 hS1 => by rfl⟩) hHeld ?_
          (try simp only [Act.put, List.setIfInBounds_toArray, List.set_cons_zero, List.set_cons_succ])
          refine takeD (i := 33) (d := some 54) (v := .int .i64 0) rfl (by kernel_rfl) (by kernel_rfl) (by kernel_rfl) rfl (fun _ _ _ h => h) (Or.inl ⟨by kernel_rfl, fun w1 hS1 => by rfl⟩) hHeld ?_
          (try simp only [Act.put, List.setIfInBounds_toArray, List.set_cons_zero, List.set_cons_succ])
          refine takeD (i := 34) (d := some 55) (v := .bool false) rfl (by kernel_rfl) (by kernel_rfl) (by kernel_rfl) rfl (fun _ _ _ h => h) (Or.inl ⟨by kernel_rfl, fun w1 hS1 => by (try dsimp only at hS1); go_simp⟩) hHeld ?_
          (try simp only [Act.put, List.setIfInBounds_toArray, List.set_cons_zero, List.set_cons_succ])
          refine takeD (i := 35) (d := some 56) (v := .bool false) rfl (by kernel_rfl) (by kernel_rfl) (by kernel_rfl) rfl (fun _ _ _ h => h) (Or.inl ⟨by kernel_rfl, fun w1 hS1 => by rfl⟩) hHeld ?_
          (try simp only [Act.put, List.setIfInBounds_toArray, List.set_cons_zero, List.set_cons_succ])
          refine takeD (i := 36) (d := some 57) (v := undef) rfl (by kernel_rfl) (by kernel_rfl) (by kernel_rfl) rfl (fun _ _ _ h => h) (Or.inr ⟨by kernel_rfl, rfl⟩) hHeld ?_
          (try simp only [Act.put, List.setIfInBounds_toArray, List.set_cons_zero, List.set_cons_succ])
          refine takeD (i := 37) (d := some 58) (v := undef) rfl (by kernel_rfl) (by kernel_rfl) (by kernel_rfl) rfl (fun _ _ _ h => h) (Or.inr ⟨by kernel_rfl, rfl⟩) hHeld ?_
          (try simp only [Act.put, List.setIfInBounds_toArray, List.set_cons_zero, List.set_cons_succ])
          refine takeD (i := 38) (d := some 59) (v := undef) rfl (by kernel_rfl) (by kernel_rfl) (by kernel_rfl) rfl (fun _ _ _ h => h) (Or.inr ⟨by kernel_rfl, rfl⟩) hHeld ?_
          (try simp only [Act.put, List.setIfInBounds_toArray, List.set_cons_zero, List.set_cons_succ])
          refine takeD (i := 39) (d := some 60) (v := undef) rfl (by kernel_rfl) (by kernel_rfl) (by kernel_rfl) rfl (fun _ _ _ h => h) (Or.inr ⟨by kernel_rfl, rfl⟩) hHeld ?_
          (try simp only [Act.put, List.setIfInBounds_toArray, List.set_cons_zero, List.set_cons_succ])
          refine takeD (i := 40) (d := some 61) (v := undef) rfl (by kernel_rfl) (by kernel_rfl) (by kernel_rfl) rfl (fun _ _ _ h => h) (Or.inr ⟨by kernel_rfl, rfl⟩) hHeld ?_
          (try simp only [Act.put, List.setIfInBounds_toArray, List.set_cons_zero, List.set_cons_succ])
          refine takeD (i := 41) (d := some 62) (v := undef) rfl (by kernel_rfl) (by kernel_rfl) (by kernel_rfl) rfl (fun _ _ _ h => h) (Or.inr ⟨by kernel_rfl, rfl⟩) hHeld ?_
          (try simp only [Act.put, List.setIfInBounds_toArray, List.set_cons_zero, List.set_cons_succ])
          refine takeD (i := 42) (d := some 63) (v := undef) rfl (by kernel_rfl) (by kernel_rfl) (by kernel_rfl) rfl (fun _ _ _ h => h) (Or.inr ⟨by kernel_rfl, rfl⟩) hHeld ?_
          (try simp only [Act.put, List.setIfInBounds_toArray, List.set_cons_zero, List.set_cons_succ])
          refine takeD (i := 43) (d := some 64) (v := undef) rfl (by kernel_rfl) (by kernel_rfl) (by kernel_rfl) rfl (fun _ _ _ h => h) (Or.inr ⟨by kernel_rfl, rfl⟩) hHeld ?_
          (try simp only [Act.put, List.setIfInBounds_toArray, List.set_cons_zero, List.set_cons_succ])
          refine takeD (i := 44) (d := some 65) (v := undef) rfl (by kernel_rfl) (by kernel_rfl) (by kernel_rfl) rfl (fun _ _ _ h => h) (Or.inr ⟨by kernel_rfl, rfl⟩) hHeld ?_
          (try simp only [Act.put, List.setIfInBounds_toArray, List.set_cons_zero, List.set_cons_succ])
          refine takeD (i := 45) (d := some 66) (v := undef) rfl (by kernel_rfl) (by kernel_rfl) (by kernel_rfl) rfl (fun _ _ _ h => h) (Or.inr ⟨by kernel_rfl, rfl⟩) hHeld ?_
          (try simp only [Act.put, List.setIfInBounds_toArray, List.set_cons_zero, List.set_cons_succ])
          refine takeD (i := 46) (d := some 67) (v := undef) rfl (by kernel_rfl) (by kernel_rfl) (by kernel_rfl) rfl (fun _ _ _ h => h) (Or.inr ⟨by kernel_rfl, rfl⟩) hHeld ?_
          (try simp only [Act.put, List.setIfInBounds_toArray, List.set_cons_zero, List.set_cons_succ])
          refine takeD (i := 47) (d := some 68) (v := undef) rfl (by kernel_rfl) (by kernel_rfl) (by kernel_rfl) rfl (fun _ _ _ h => h) (Or.inr ⟨by kernel_rfl, rfl⟩) hHeld ?_
          (try simp only [Act.put, List.setIfInBounds_toArray, List.set_cons_zero, List.set_cons_succ])
          refine takeD (i := 48) (d := some 69) (v := undef) rfl (by kernel_rfl) (by kernel_rfl) (by kernel_rfl) rfl (fun _ _ _ h => h) (Or.inr ⟨by kernel_rfl, rfl⟩) hHeld ?_
          (try simp only [Act.put, List.setIfInBounds_toArray, List.set_cons_zero, List.set_cons_succ])
          refine takeD (i := 49) (d := some 70) (v := undef) rfl (by kernel_rfl) (by kernel_rfl) (by kernel_rfl) rfl (fun _ _ _ h => h) (Or.inr ⟨by kernel_rfl, rfl⟩) hHeld ?_
          (try simp only [Act.put, List.setIfInBounds_toArray, List.set_cons_zero, List.set_cons_succ])
          refine takeD (i := 50) (d := some 71) (v := .bool false) rfl (by kernel_rfl) (by kernel_rfl) (by kernel_rfl) rfl (fun _ _ _ h => h) (Or.inl ⟨by kernel_rfl, fun w1 hS1 => by rfl⟩) hHeld ?_
          (try simp only [Act.put, List.setIfInBounds_toArray, List.set_cons_zero, List.set_cons_succ])
          refine takeD (i := 51) (d := some 72) (v := .bool false) rfl (by kernel_rfl) (by kernel_rfl) (by kernel_rfl) rfl (fun _ _ _ h => h) (Or.inl ⟨by kernel_rfl, fun w1 hS1 => by rfl⟩) hHeld ?_
          (try simp only [Act.put, List.setIfInBounds_toArray, List.set_cons_zero, List.set_cons_succ])
          refine takeD (i := 52) (d := some 73) (v := .bool false) rfl (by kernel_rfl) (by kernel_rfl) (by kernel_rfl) rfl (fun _ _ _ h => h) (Or.inl ⟨by kernel_rfl, fun w1 hS1 => by rfl⟩) hHeld ?_
          (try simp only [Act.put, List.setIfInBounds_toArray, List.set_cons_zero, List.set_cons_succ])
          refine takeD (i := 53) (d := some 74) (v := .agg #[.int .i64 W, .int .i64 H, .int .i64 S]) rfl (by kernel_rfl) (by kernel_rfl) (by kernel_rfl) rfl (fun _ _ _ h => h) (Or.inl ⟨by kernel_rfl, fun w1 hS1 => by (try dsimp only at hS1); go_simp⟩) hHeld ?_
          (try simp only [Act.put, List.setIfInBounds_toArray, List.set_cons_zero, List.set_cons_succ])
          refine takeD (i := 54) (d := some 75) (v := .slice (some ⟨g, 0, none⟩) xs.length cp) rfl (by kernel_rfl) (by kernel_rfl) (by kernel_rfl) rfl (fun _ _ _ h => h) (Or.inl ⟨by kernel_rfl, fun w1 hS1 => by rfl⟩) hHeld ?_
          (try simp only [Act.put, List.setIfInBounds_toArray, List.set_cons_zero, List.set_cons_succ])
          refine takeD (i := 55) (d := some 76) (v := .int .i64 0) rfl (by kernel_rfl) (by kernel_rfl) (by kernel_rfl) rfl (fun _ _ _ h => h) (Or.inl ⟨by kernel_rfl, fun w1 hS1 => by rfl⟩) hHeld ?_
          (try simp only [Act.put, List.setIfInBounds_toArray, List.set_cons_zero, List.set_cons_succ])
          refine takeD (i := 56) (d := some 77) (v := .pointer (some ⟨g, 0, none⟩)) rfl (by kernel_rfl) (by kernel_rfl) (by kernel_rfl) rfl (fun _ _ _ h => h) (Or.inl ⟨by kernel_rfl, fun w1 hS1 => by (try dsimp only at hS1); go_simp⟩) hHeld ?_
          (try simp only [Act.put, List.setIfInBounds_toArray, List.set_cons_zero, List.set_cons_succ])
          refine takeD (i := 57) (d := some 78) (v := .int .i64 K) rfl (by kernel_rfl) (by kernel_rfl) (by kernel_rfl) rfl (fun _ _ _ h => h) (Or.inl ⟨by kernel_rfl, fun w1 hS1 => by (try dsimp only at hS1); go_simp⟩) hHeld ?_
          (try simp only [Act.put, List.setIfInBounds_toArray, List.set_cons_zero, List.set_cons_succ])
          refine wpAnyH_ready (rs := [58]) (by kernel_rfl) (by simp) ?_
          refine AllReadyH.cons rfl (fun K hK => ?_) AllReadyH.nil
          go_simp
          go_at_call 15
          refine (HHN.out _ hHeld.2.2.2.2.2.1).mono ?_
          rintro e w1 ⟨rfl, hB1⟩
          (try go_simp)
          refine hK.out _ _ (B5.keep hHeld hB1) (fun hHeld => ?_)
          clear hK K
          (try simp only [Act.put, List.setIfInBounds_toArray, List.set_cons_zero, List.set_cons_succ])
          (try dsimp only at hHeld)
          refine takeD (i := 59) (d := some 80) (v := .int .i64 2) rfl (by kernel_rfl) (by kernel_rfl) (by kernel_rfl) rfl (fun _ _ _ h => h) (Or.inl ⟨by kernel_rfl, fun w1 hS1 => by (try dsimp only at hS1); go_simp⟩) hHeld ?_
          (try simp only [Act.put, List.setIfInBounds_toArray, List.set_cons_zero, List.set_cons_succ])
          refine takeD (i := 60) (d := some 81) (v := .bool false) rfl (by kernel_rfl) (by kernel_rfl) (by kernel_rfl) rfl (fun _ _ _ h => h) (Or.inl ⟨by kernel_rfl, fun w1 hS1 => by (try dsimp only at hS1); go_simp⟩) hHeld ?_
          (try simp only [Act.put, List.setIfInBounds_toArray, List.set_cons_zero, List.set_cons_succ])
          refine takeD (i := 61) (d := some 82) (v := .bool false) rfl (by kernel_rfl) (by kernel_rfl) (by kernel_rfl) rfl (fun _ _ _ h => h) (Or.inl ⟨by kernel_rfl, fun w1 hS1 => by rfl⟩) hHeld ?_
          (try simp only [Act.put, List.setIfInBounds_toArray, List.set_cons_zero, List.set_cons_succ])
          refine wpAnyH_done (by kernel_rfl) ?_ _
          -- </HAND0>
          go_wp2
          go_meet
          case rel => exact ⟨rfl, hHeld⟩
        case rest =>
          obtain ⟨rfl, d0, d1, d2, e0, e1, _, hbc⟩ := hcut
          go_wp2
          go_roundw
          case rel => exact ⟨1, by omega, by go_num, by rw [HZ.out], hbc⟩
          case measure => simp [intOf]; omega
      · obtain ⟨j, hj⟩ : ∃ j, k = j + 1 := ⟨k - 1, by omega⟩
        obtain ⟨K', c1, hg', hK1', hK2', hK3'⟩ := HAT.out j (by omega)
        subst hj
        have hup := HUP.out j hlt hg hg'
        have hne := HNE.out K' hK1' hK3' (by omega)
        have HHN2 := Lib.hid (fun w1 ht => HoleName_any W H S K' w1 ht)
        obtain ⟨N2, hN⟩ : ∃ N2, holeT W H S K' = N2 := ⟨_, rfl⟩
        rw [hN] at hne HHN2
        have hne3 : decide (N1 = N2) = false := decide_eq_false hne
        have hneL : ¬ N1.toList = N2.toList := fun e => hne (by rw [ByteArray.toList_eq, ByteArray.toList_eq] at e; exact ByteArray.ext (Array.toList_inj.1 e))
        have hjI : (j : Int) < (xs.length : Int) := by omega
        have hjN : j < xs.length := by omega
        have hjM : ¬ xs.length ≤ j := by omega
        replace c1 := cell_kept c1 hb
        obtain ⟨k, hkj⟩ : ∃ k, j + 1 = k := ⟨_, rfl⟩
        rw [hkj] at c0 hI0 hI1 HZ hlt hk ⊢
        have hk1 : (k : Int) - 1 = (j : Int) := by omega
        have hkw : IntKind.i64.wrap (j : Int) = j := Bit.i64_wrap _ (by omega) (by omega)
        have hkp : (0 : Int) < (k : Int) := by omega
        have hkp2 : 0 < k := by omega
        have hupn : ¬ K ≤ K' := by omega
        have hupi : ¬ (K : Int) ≤ (K' : Int) := by omega
        have hS0 : B5 n g k j W H S K K' w4 wr.drew := ⟨b0, b1, b2, c0, c1, tab_kept hT4.out hb.drew, hb.drew⟩
        clear hg hg' hkj hN HAT HUP HNE
        go_wp2_with fail
        go_cut [82] from 200 (fun c wc => c = .bool false ∧ B5 n g k j W H S K K' w4 wc)
        case first =>
          -- <HAND1>
          refine wp_region_held_drew (S := (fun w' => w'.cell? ⟨n, 0, none⟩ = some (.int .i64 W) ∧ w'.cell? ⟨n, 1, none⟩ = some (.int .i64 H) ∧ w'.cell? ⟨n, 2, none⟩ = some (.int .i64 S) ∧ w'.cell? ⟨g, k, none⟩ = some (.int .i64 K) ∧ w'.cell? ⟨g, j, none⟩ = some (.int .i64 K') ∧ Tab w' ∧ Below w4.heap.size w4 w')) (by kernel_rfl) hS0 (fun hHeld => ?_)
          (try dsimp only at hHeld)
          refine takeD (i := 0) (d := some 21) (v := .agg #[.int .i64 W, .int .i64 H, .int .i64 S]) rfl (by kernel_rfl) (by kernel_rfl) (by kernel_rfl) rfl (fun _ _ _ h => h) (Or.inl ⟨by kernel_rfl, fun w1 hS1 => by (try dsimp only at hS1); go_simp⟩) hHeld ?_
          (try simp only [Act.put, List.setIfInBounds_toArray, List.set_cons_zero, List.set_cons_succ])
          refine takeD (i := 1) (d := some 22) (v := .slice (some ⟨g, 0, none⟩) xs.length cp) rfl (by kernel_rfl) (by kernel_rfl) (by kernel_rfl) rfl (fun _ _ _ h => h) (Or.inl ⟨by kernel_rfl, fun w1 hS1 => by rfl⟩) hHeld ?_
          (try simp only [Act.put, List.setIfInBounds_toArray, List.set_cons_zero, List.set_cons_succ])
          refine takeD (i := 2) (d := some 23) (v := .int .i64 k) rfl (by kernel_rfl) (by kernel_rfl) (by kernel_rfl) rfl (fun _ _ _ h => h) (Or.inl ⟨by kernel_rfl, fun w1 hS1 => by rfl⟩) hHeld ?_
          (try simp only [Act.put, List.setIfInBounds_toArray, List.set_cons_zero, List.set_cons_succ])
          refine takeD (i := 3) (d := some 24) (v := .pointer (some ⟨g, k, none⟩)) rfl (by kernel_rfl) (by kernel_rfl) (by kernel_rfl) rfl (fun _ _ _ h => h) (Or.inl ⟨by kernel_rfl, fun w1 hS1 => by (try dsimp only at hS1); go_simp⟩) hHeld ?_
          (try simp only [Act.put, List.setIfInBounds_toArray, List.set_cons_zero, List.set_cons_succ])
          refine takeD (i := 4) (d := some 25) (v := .int .i64 K) rfl (by kernel_rfl) (by kernel_rfl) (by kernel_rfl) rfl (fun _ _ _ h => h) (Or.inl ⟨by kernel_rfl, fun w1 hS1 => by (try dsimp only at hS1); go_simp⟩) hHeld ?_
          (try simp only [Act.put, List.setIfInBounds_toArray, List.set_cons_zero, List.set_cons_succ])
          refine wpAnyH_ready (rs := [5]) (by kernel_rfl) (by simp) ?_
          refine AllReadyH.cons rfl (fun K hK => ?_) AllReadyH.nil
          go_simp
          go_at_call 13
          refine (HS1.out _).mono ?_
          rintro e w1 ⟨rfl, hB1⟩
          (try go_simp)
          refine hK.out _ _ (B5.keep hHeld hB1) (fun hHeld => ?_)
          clear hK K
          (try simp only [Act.put, List.setIfInBounds_toArray, List.set_cons_zero, List.set_cons_succ])
          (try dsimp only at hHeld)
          refine takeD (i := 6) (d := some 27) (v := .bool false) rfl (by kernel_rfl) (by kernel_rfl) (by kernel_rfl) rfl (fun _ _ _ h => h) (Or.inl ⟨by kernel_rfl, fun w1 hS1 => by first | rfl | ((try dsimp only at hS1); go_simp)⟩) hHeld ?_
          (try simp only [Act.put, List.setIfInBounds_toArray, List.set_cons_zero, List.set_cons_succ])
          refine takeD (i := 7) (d := some 28) (v := .bool false) rfl (by kernel_rfl) (by kernel_rfl) (by kernel_rfl) rfl (fun _ _ _ h => h) (Or.inl ⟨by kernel_rfl, fun w1 hS1 => by rfl⟩) hHeld ?_
          (try simp only [Act.put, List.setIfInBounds_toArray, List.set_cons_zero, List.set_cons_succ])
          refine takeD (i := 8) (d := some 29) (v := .agg #[.int .i64 W, .int .i64 H, .int .i64 S]) rfl (by kernel_rfl) (by kernel_rfl) (by kernel_rfl) rfl (fun _ _ _ h => h) (Or.inl ⟨by kernel_rfl, fun w1 hS1 => by (try dsimp only at hS1); go_simp⟩) hHeld ?_
          (try simp only [Act.put, List.setIfInBounds_toArray, List.set_cons_zero, List.set_cons_succ])
          refine takeD (i := 9) (d := some 30) (v := .slice (some ⟨g, 0, none⟩) xs.length cp) rfl (by kernel_rfl) (by kernel_rfl) (by kernel_rfl) rfl (fun _ _ _ h => h) (Or.inl ⟨by kernel_rfl, fun w1 hS1 => by rfl⟩) hHeld ?_
          (try simp only [Act.put, List.setIfInBounds_toArray, List.set_cons_zero, List.set_cons_succ])
          refine takeD (i := 10) (d := some 31) (v := .int .i64 k) rfl (by kernel_rfl) (by kernel_rfl) (by kernel_rfl) rfl (fun _ _ _ h => h) (Or.inl ⟨by kernel_rfl, fun w1 hS1 => by rfl⟩) hHeld ?_
          (try simp only [Act.put, List.setIfInBounds_toArray, List.set_cons_zero, List.set_cons_succ])
          refine takeD (i := 11) (d := some 32) (v := .pointer (some ⟨g, k, none⟩)) rfl (by kernel_rfl) (by kernel_rfl) (by kernel_rfl) rfl (fun _ _ _ h => h) (Or.inl ⟨by kernel_rfl, fun w1 hS1 => by (try dsimp only at hS1); go_simp⟩) hHeld ?_
          (try simp only [Act.put, List.setIfInBounds_toArray, List.set_cons_zero, List.set_cons_succ])
          refine takeD (i := 12) (d := some 33) (v := .int .i64 K) rfl (by kernel_rfl) (by kernel_rfl) (by kernel_rfl) rfl (fun _ _ _ h => h) (Or.inl ⟨by kernel_rfl, fun w1 hS1 => by (try dsimp only at hS1); go_simp⟩) hHeld ?_
          (try simp only [Act.put, List.setIfInBounds_toArray, List.set_cons_zero, List.set_cons_succ])
          refine wpAnyH_ready (rs := [13]) (by kernel_rfl) (by simp) ?_
          refine AllReadyH.cons rfl (fun K hK => ?_) AllReadyH.nil
          go_simp
          go_at_call 14
          refine (HS2.out _).mono ?_
          rintro e w1 ⟨rfl, hB1⟩
          (try go_simp)
          refine hK.out _ _ (B5.keep hHeld hB1) (fun hHeld => ?_)
          clear hK K
          (try simp only [Act.put, List.setIfInBounds_toArray, List.set_cons_zero, List.set_cons_succ])
          (try dsimp only at hHeld)
          refine takeD (i := 14) (d := some 35) (v := .bool false) rfl (by kernel_rfl) (by kernel_rfl) (by kernel_rfl) rfl (fun _ _ _ h => h) (Or.inl ⟨by kernel_rfl, fun w1 hS1 => by first | rfl | ((try dsimp only at hS1); go_simp)⟩) hHeld ?_
          (try simp only [Act.put, List.setIfInBounds_toArray, List.set_cons_zero, List.set_cons_succ])
          refine takeD (i := 15) (d := some 36) (v := .bool false) rfl (by kernel_rfl) (by kernel_rfl) (by kernel_rfl) rfl (fun _ _ _ h => h) (Or.inl ⟨by kernel_rfl, fun w1 hS1 => by rfl⟩) hHeld ?_
          (try simp only [Act.put, List.setIfInBounds_toArray, List.set_cons_zero, List.set_cons_succ])
          refine takeD (i := 16) (d := some 37) (v := .bool false) rfl (by kernel_rfl) (by kernel_rfl) (by kernel_rfl) rfl (fun _ _ _ h => h) (Or.inl ⟨by kernel_rfl, fun w1 hS1 => by rfl⟩) hHeld ?_
          (try simp only [Act.put, List.setIfInBounds_toArray, List.set_cons_zero, List.set_cons_succ])
          refine takeD (i := 17) (d := some 38) (v := .int .i64 k) rfl (by kernel_rfl) (by kernel_rfl) (by kernel_rfl) rfl (fun _ _ _ h => h) (Or.inl ⟨by kernel_rfl, fun w1 hS1 => by rfl⟩) hHeld ?_
          (try simp only [Act.put, List.setIfInBounds_toArray, List.set_cons_zero, List.set_cons_succ])
          refine takeD (i := 18) (d := some 39) (v := .bool true) rfl (by kernel_rfl) (by kernel_rfl) (by kernel_rfl) rfl (fun _ _ _ h => h) (Or.inl ⟨by kernel_rfl, fun w1 hS1 => by (try dsimp only at hS1); go_simp⟩) hHeld ?_
          (try simp only [Act.put, List.setIfInBounds_toArray, List.set_cons_zero, List.set_cons_succ])
          refine takeD (i := 19) (d := some 40) (v := .bool true) rfl (by kernel_rfl) (by kernel_rfl) (by kernel_rfl) rfl (fun _ _ _ h => h) (Or.inl ⟨by kernel_rfl, fun w1 hS1 => by rfl⟩) hHeld ?_
          (try simp only [Act.put, List.setIfInBounds_toArray, List.set_cons_zero, List.set_cons_succ])
          refine takeD (i := 20) (d := some 41) (v := .slice (some ⟨g, 0, none⟩) xs.length cp) rfl (by kernel_rfl) (by kernel_rfl) (by kernel_rfl) rfl (fun _ _ _ h => h) (Or.inl ⟨by kernel_rfl, fun w1 hS1 => by rfl⟩) hHeld ?_
          (try simp only [Act.put, List.setIfInBounds_toArray, List.set_cons_zero, List.set_cons_succ])
          refine takeD (i := 21) (d := some 42) (v := .int .i64 k) rfl (by kernel_rfl) (by kernel_rfl) (by kernel_rfl) rfl (fun _ _ _ h => h) (Or.inl ⟨by kernel_rfl, fun w1 hS1 => by rfl⟩) hHeld ?_
          (try simp only [Act.put, List.setIfInBounds_toArray, List.set_cons_zero, List.set_cons_succ])
          refine takeD (i := 22) (d := some 43) (v := .pointer (some ⟨g, k, none⟩)) rfl (by kernel_rfl) (by kernel_rfl) (by kernel_rfl) rfl (fun _ _ _ h => h) (Or.inl ⟨by kernel_rfl, fun w1 hS1 => by (try dsimp only at hS1); go_simp⟩) hHeld ?_
          (try simp only [Act.put, List.setIfInBounds_toArray, List.set_cons_zero, List.set_cons_succ])
          refine takeD (i := 23) (d := some 44) (v := .int .i64 K) rfl (by kernel_rfl) (by kernel_rfl) (by kernel_rfl) rfl (fun _ _ _ h => h) (Or.inl ⟨by kernel_rfl, fun w1 hS1 => by (try dsimp only at hS1); go_simp⟩) hHeld ?_
          (try simp only [Act.put, List.setIfInBounds_toArray, List.set_cons_zero, List.set_cons_succ])
          refine takeD (i := 24) (d := some 45) (v := .slice (some ⟨g, 0, none⟩) xs.length cp) rfl (by kernel_rfl) (by kernel_rfl) (by kernel_rfl) rfl (fun _ _ _ h => h) (Or.inl ⟨by kernel_rfl, fun w1 hS1 => by rfl⟩) hHeld ?_
          (try simp only [Act.put, List.setIfInBounds_toArray, List.set_cons_zero, List.set_cons_succ])
          refine takeD (i := 25) (d := some 46) (v := .int .i64 k) rfl (by kernel_rfl) (by kernel_rfl) (by kernel_rfl) rfl (fun _ _ _ h => h) (Or.inl ⟨by kernel_rfl, fun w1 hS1 => by rfl⟩) hHeld ?_
          (try simp only [Act.put, List.setIfInBounds_toArray, List.set_cons_zero, List.set_cons_succ])
          refine takeD (i := 26) (d := some 47) (v := .int .i64 j) rfl (by kernel_rfl) (by kernel_rfl) (by kernel_rfl) rfl (fun _ _ _ h => h) (Or.inl ⟨by kernel_rfl, fun w1 hS1 => by (try dsimp only at hS1); go_simp⟩) hHeld ?_
          (try simp only [Act.put, List.setIfInBounds_toArray, List.set_cons_zero, List.set_cons_succ])
          refine takeD (i := 27) (d := some 48) (v := .pointer (some ⟨g, j, none⟩)) rfl (by kernel_rfl) (by kernel_rfl) (by kernel_rfl) rfl (fun _ _ _ h => h) (Or.inl ⟨by kernel_rfl, fun w1 hS1 => by (try dsimp only at hS1); go_simp⟩) hHeld ?_
          (try simp only [Act.put, List.setIfInBounds_toArray, List.set_cons_zero, List.set_cons_succ])
          refine takeD (i := 28) (d := some 49) (v := .int .i64 K') rfl (by kernel_rfl) (by kernel_rfl) (by kernel_rfl) rfl (fun _ _ _ h => h) (Or.inl ⟨by kernel_rfl, fun w1 hS1 => by (try dsimp only at hS1); go_simp⟩) hHeld ?_
          (try simp only [Act.put, List.setIfInBounds_toArray, List.set_cons_zero, List.set_cons_succ])
          refine takeD (i := 29) (d := some 50) (v := .bool false) rfl (by kernel_rfl) (by kernel_rfl) (by kernel_rfl) rfl (fun _ _ _ h => h) (Or.inl ⟨by kernel_rfl, fun w1 hS1 => by (try dsimp only at hS1); go_simp⟩) hHeld ?_
          (try simp only [Act.put, List.setIfInBounds_toArray, List.set_cons_zero, List.set_cons_succ])
          refine takeD (i := 30) (d := some 51) (v := .bool false) rfl (by kernel_rfl) (by kernel_rfl) (by kernel_rfl) rfl (fun _ _ _ h => h) (Or.inl ⟨by kernel_rfl, fun w1 hS1 => by rfl⟩) hHeld ?_
          (try simp only [Act.put, List.setIfInBounds_toArray, List.set_cons_zero, List.set_cons_succ])
          refine takeD (i := 31) (d := some 52) (v := .bool false) rfl (by kernel_rfl) (by kernel_rfl) (by kernel_rfl) rfl (fun _ _ _ h => h) (Or.inl ⟨by kernel_rfl, fun w1 hS1 => by rfl⟩) hHeld ?_
          (try simp only [Act.put, List.setIfInBounds_toArray, List.set_cons_zero, List.set_cons_succ])
          refine takeD (i := 32) (d := some 53) (v := .bool false) rfl (by kernel_rfl) (by kernel_rfl) (by kernel_rfl) rfl (fun _ _ _ h => h) (Or.inl ⟨by kernel_rfl, fun w1 hS1 => by rfl⟩) hHeld ?_
          (try simp only [Act.put, List.setIfInBounds_toArray, List.set_cons_zero, List.set_cons_succ])
          refine takeD (i := 33) (d := some 54) (v := .int .i64 k) rfl (by kernel_rfl) (by kernel_rfl) (by kernel_rfl) rfl (fun _ _ _ h => h) (Or.inl ⟨by kernel_rfl, fun w1 hS1 => by rfl⟩) hHeld ?_
          (try simp only [Act.put, List.setIfInBounds_toArray, List.set_cons_zero, List.set_cons_succ])
          refine takeD (i := 34) (d := some 55) (v := .bool true) rfl (by kernel_rfl) (by kernel_rfl) (by kernel_rfl) rfl (fun _ _ _ h => h) (Or.inl ⟨by kernel_rfl, fun w1 hS1 => by (try dsimp only at hS1); go_simp⟩) hHeld ?_
          (try simp only [Act.put, List.setIfInBounds_toArray, List.set_cons_zero, List.set_cons_succ])
          refine takeD (i := 35) (d := some 56) (v := .bool true) rfl (by kernel_rfl) (by kernel_rfl) (by kernel_rfl) rfl (fun _ _ _ h => h) (Or.inl ⟨by kernel_rfl, fun w1 hS1 => by rfl⟩) hHeld ?_
          (try simp only [Act.put, List.setIfInBounds_toArray, List.set_cons_zero, List.set_cons_succ])
          refine takeD (i := 36) (d := some 57) (v := .agg #[.int .i64 W, .int .i64 H, .int .i64 S]) rfl (by kernel_rfl) (by kernel_rfl) (by kernel_rfl) rfl (fun _ _ _ h => h) (Or.inl ⟨by kernel_rfl, fun w1 hS1 => by (try dsimp only at hS1); go_simp⟩) hHeld ?_
          (try simp only [Act.put, List.setIfInBounds_toArray, List.set_cons_zero, List.set_cons_succ])
          refine takeD (i := 37) (d := some 58) (v := .slice (some ⟨g, 0, none⟩) xs.length cp) rfl (by kernel_rfl) (by kernel_rfl) (by kernel_rfl) rfl (fun _ _ _ h => h) (Or.inl ⟨by kernel_rfl, fun w1 hS1 => by rfl⟩) hHeld ?_
          (try simp only [Act.put, List.setIfInBounds_toArray, List.set_cons_zero, List.set_cons_succ])
          refine takeD (i := 38) (d := some 59) (v := .int .i64 k) rfl (by kernel_rfl) (by kernel_rfl) (by kernel_rfl) rfl (fun _ _ _ h => h) (Or.inl ⟨by kernel_rfl, fun w1 hS1 => by rfl⟩) hHeld ?_
          (try simp only [Act.put, List.setIfInBounds_toArray, List.set_cons_zero, List.set_cons_succ])
          refine takeD (i := 39) (d := some 60) (v := .pointer (some ⟨g, k, none⟩)) rfl (by kernel_rfl) (by kernel_rfl) (by kernel_rfl) rfl (fun _ _ _ h => h) (Or.inl ⟨by kernel_rfl, fun w1 hS1 => by (try dsimp only at hS1); go_simp⟩) hHeld ?_
          (try simp only [Act.put, List.setIfInBounds_toArray, List.set_cons_zero, List.set_cons_succ])
          refine takeD (i := 40) (d := some 61) (v := .int .i64 K) rfl (by kernel_rfl) (by kernel_rfl) (by kernel_rfl) rfl (fun _ _ _ h => h) (Or.inl ⟨by kernel_rfl, fun w1 hS1 => by (try dsimp only at hS1); go_simp⟩) hHeld ?_
          (try simp only [Act.put, List.setIfInBounds_toArray, List.set_cons_zero, List.set_cons_succ])
          refine takeD (i := 42) (d := some 63) (v := .agg #[.int .i64 W, .int .i64 H, .int .i64 S]) rfl (by kernel_rfl) (by kernel_rfl) (by kernel_rfl) rfl (fun _ _ _ h => h) (Or.inl ⟨by kernel_rfl, fun w1 hS1 => by (try dsimp only at hS1); go_simp⟩) hHeld ?_
          (try simp only [Act.put, List.setIfInBounds_toArray, List.set_cons_zero, List.set_cons_succ])
          refine takeD (i := 43) (d := some 64) (v := .slice (some ⟨g, 0, none⟩) xs.length cp) rfl (by kernel_rfl) (by kernel_rfl) (by kernel_rfl) rfl (fun _ _ _ h => h) (Or.inl ⟨by kernel_rfl, fun w1 hS1 => by rfl⟩) hHeld ?_
          (try simp only [Act.put, List.setIfInBounds_toArray, List.set_cons_zero, List.set_cons_succ])
          refine takeD (i := 44) (d := some 65) (v := .int .i64 k) rfl (by kernel_rfl) (by kernel_rfl) (by kernel_rfl) rfl (fun _ _ _ h => h) (Or.inl ⟨by kernel_rfl, fun w1 hS1 => by rfl⟩) hHeld ?_
          (try simp only [Act.put, List.setIfInBounds_toArray, List.set_cons_zero, List.set_cons_succ])
          refine takeD (i := 45) (d := some 66) (v := .int .i64 j) rfl (by kernel_rfl) (by kernel_rfl) (by kernel_rfl) rfl (fun _ _ _ h => h) (Or.inl ⟨by kernel_rfl, fun w1 hS1 => by (try dsimp only at hS1); go_simp⟩) hHeld ?_
          (try simp only [Act.put, List.setIfInBounds_toArray, List.set_cons_zero, List.set_cons_succ])
          refine takeD (i := 46) (d := some 67) (v := .pointer (some ⟨g, j, none⟩)) rfl (by kernel_rfl) (by kernel_rfl) (by kernel_rfl) rfl (fun _ _ _ h => h) (Or.inl ⟨by kernel_rfl, fun w1 hS1 => by (try dsimp only at hS1); go_simp⟩) hHeld ?_
          (try simp only [Act.put, List.setIfInBounds_toArray, List.set_cons_zero, List.set_cons_succ])
          refine takeD (i := 47) (d := some 68) (v := .int .i64 K') rfl (by kernel_rfl) (by kernel_rfl) (by kernel_rfl) rfl (fun _ _ _ h => h) (Or.inl ⟨by kernel_rfl, fun w1 hS1 => by (try dsimp only at hS1); go_simp⟩) hHeld ?_
          (try simp only [Act.put, List.setIfInBounds_toArray, List.set_cons_zero, List.set_cons_succ])
          refine wpAnyH_ready (rs := [41]) (by kernel_rfl) (by simp) ?_
          refine AllReadyH.cons rfl (fun K hK => ?_) AllReadyH.nil
          go_simp
          go_at_call 15
          refine (HHN.out _ hHeld.2.2.2.2.2.1).mono ?_
          rintro e w1 ⟨rfl, hB1⟩
          (try go_simp)
          refine hK.out _ _ (B5.keep hHeld hB1) (fun hHeld => ?_)
          clear hK K
          (try simp only [Act.put, List.setIfInBounds_toArray, List.set_cons_zero, List.set_cons_succ])
          (try dsimp only at hHeld)
          refine wpAnyH_ready (rs := [48]) (by kernel_rfl) (by simp) ?_
          refine AllReadyH.cons rfl (fun K hK => ?_) AllReadyH.nil
          go_simp
          go_at_call 15
          refine (HHN2.out _ hHeld.2.2.2.2.2.1).mono ?_
          rintro e w1 ⟨rfl, hB1⟩
          (try go_simp)
          refine hK.out _ _ (B5.keep hHeld hB1) (fun hHeld => ?_)
          clear hK K
          (try simp only [Act.put, List.setIfInBounds_toArray, List.set_cons_zero, List.set_cons_succ])
          (try dsimp only at hHeld)
          refine takeD (i := 49) (d := some 70) (v := .bool false) rfl (by kernel_rfl) (by kernel_rfl) (by kernel_rfl) rfl (fun _ _ _ h => h) (Or.inl ⟨by kernel_rfl, fun w1 hS1 => by (try dsimp only at hS1); go_simp⟩) hHeld ?_
          (try simp only [Act.put, List.setIfInBounds_toArray, List.set_cons_zero, List.set_cons_succ])
          refine takeD (i := 50) (d := some 71) (v := .bool false) rfl (by kernel_rfl) (by kernel_rfl) (by kernel_rfl) rfl (fun _ _ _ h => h) (Or.inl ⟨by kernel_rfl, fun w1 hS1 => by rfl⟩) hHeld ?_
          (try simp only [Act.put, List.setIfInBounds_toArray, List.set_cons_zero, List.set_cons_succ])
          refine takeD (i := 51) (d := some 72) (v := .bool false) rfl (by kernel_rfl) (by kernel_rfl) (by kernel_rfl) rfl (fun _ _ _ h => h) (Or.inl ⟨by kernel_rfl, fun w1 hS1 => by rfl⟩) hHeld ?_
          (try simp only [Act.put, List.setIfInBounds_toArray, List.set_cons_zero, List.set_cons_succ])
          refine takeD (i := 52) (d := some 73) (v := .bool false) rfl (by kernel_rfl) (by kernel_rfl) (by kernel_rfl) rfl (fun _ _ _ h => h) (Or.inl ⟨by kernel_rfl, fun w1 hS1 => by rfl⟩) hHeld ?_
          (try simp only [Act.put, List.setIfInBounds_toArray, List.set_cons_zero, List.set_cons_succ])
          refine takeD (i := 53) (d := some 74) (v := .agg #[.int .i64 W, .int .i64 H, .int .i64 S]) rfl (by kernel_rfl) (by kernel_rfl) (by kernel_rfl) rfl (fun _ _ _ h => h) (Or.inl ⟨by kernel_rfl, fun w1 hS1 => by (try dsimp only at hS1); go_simp⟩) hHeld ?_
          (try simp only [Act.put, List.setIfInBounds_toArray, List.set_cons_zero, List.set_cons_succ])
          refine takeD (i := 54) (d := some 75) (v := .slice (some ⟨g, 0, none⟩) xs.length cp) rfl (by kernel_rfl) (by kernel_rfl) (by kernel_rfl) rfl (fun _ _ _ h => h) (Or.inl ⟨by kernel_rfl, fun w1 hS1 => by rfl⟩) hHeld ?_
          (try simp only [Act.put, List.setIfInBounds_toArray, List.set_cons_zero, List.set_cons_succ])
          refine takeD (i := 55) (d := some 76) (v := .int .i64 k) rfl (by kernel_rfl) (by kernel_rfl) (by kernel_rfl) rfl (fun _ _ _ h => h) (Or.inl ⟨by kernel_rfl, fun w1 hS1 => by rfl⟩) hHeld ?_
          (try simp only [Act.put, List.setIfInBounds_toArray, List.set_cons_zero, List.set_cons_succ])
          refine takeD (i := 56) (d := some 77) (v := .pointer (some ⟨g, k, none⟩)) rfl (by kernel_rfl) (by kernel_rfl) (by kernel_rfl) rfl (fun _ _ _ h => h) (Or.inl ⟨by kernel_rfl, fun w1 hS1 => by (try dsimp only at hS1); go_simp⟩) hHeld ?_
          (try simp only [Act.put, List.setIfInBounds_toArray, List.set_cons_zero, List.set_cons_succ])
          refine takeD (i := 57) (d := some 78) (v := .int .i64 K) rfl (by kernel_rfl) (by kernel_rfl) (by kernel_rfl) rfl (fun _ _ _ h => h) (Or.inl ⟨by kernel_rfl, fun w1 hS1 => by (try dsimp only at hS1); go_simp⟩) hHeld ?_
          (try simp only [Act.put, List.setIfInBounds_toArray, List.set_cons_zero, List.set_cons_succ])
          refine wpAnyH_ready (rs := [58]) (by kernel_rfl) (by simp) ?_
          refine AllReadyH.cons rfl (fun K hK => ?_) AllReadyH.nil
          go_simp
          go_at_call 15
          refine (HHN.out _ hHeld.2.2.2.2.2.1).mono ?_
          rintro e w1 ⟨rfl, hB1⟩
          (try go_simp)
          refine hK.out _ _ (B5.keep hHeld hB1) (fun hHeld => ?_)
          clear hK K
          (try simp only [Act.put, List.setIfInBounds_toArray, List.set_cons_zero, List.set_cons_succ])
          (try dsimp only at hHeld)
          refine takeD (i := 59) (d := some 80) (v := .int .i64 2) rfl (by kernel_rfl) (by kernel_rfl) (by kernel_rfl) rfl (fun _ _ _ h => h) (Or.inl ⟨by kernel_rfl, fun w1 hS1 => by (try dsimp only at hS1); go_simp⟩) hHeld ?_
          (try simp only [Act.put, List.setIfInBounds_toArray, List.set_cons_zero, List.set_cons_succ])
          refine takeD (i := 60) (d := some 81) (v := .bool false) rfl (by kernel_rfl) (by kernel_rfl) (by kernel_rfl) rfl (fun _ _ _ h => h) (Or.inl ⟨by kernel_rfl, fun w1 hS1 => by (try dsimp only at hS1); go_simp⟩) hHeld ?_
          (try simp only [Act.put, List.setIfInBounds_toArray, List.set_cons_zero, List.set_cons_succ])
          refine takeD (i := 61) (d := some 82) (v := .bool false) rfl (by kernel_rfl) (by kernel_rfl) (by kernel_rfl) rfl (fun _ _ _ h => h) (Or.inl ⟨by kernel_rfl, fun w1 hS1 => by rfl⟩) hHeld ?_
          (try simp only [Act.put, List.setIfInBounds_toArray, List.set_cons_zero, List.set_cons_succ])
          refine wpAnyH_done (by kernel_rfl) ?_ _
          -- </HAND1>
          go_wp2
          go_meet
          case rel => exact ⟨rfl, hHeld⟩
        case rest =>
          obtain ⟨rfl, d0, d1, d2, e0, e1, _, hbc⟩ := hcut
          go_wp2
          go_roundw
          case rel => exact ⟨k + 1, by omega, by go_num, by rw [HZ.out], hbc⟩
          case measure => simp [intOf]; omega
    · have hkx : k = xs.length := by omega
      subst hkx
      rw [HSUM.out]
      replace b0 := cell_kept b0 hb
      replace b1 := cell_kept b1 hb
      replace b2 := cell_kept b2 hb
      have hC5 := Lib.hid (hC4.out.kept hb)
      replace hBel := Lib.hid (hBel.out.andThen hb)
      clear hb hlt
      go_wp2_with fail
      refine (at_any ad len cap 0 (by decide) (by decide) _ hC5.out HLE.out).mono ?_
      rintro e w5 ⟨x, hx, rfl, hw5⟩
      subst w5
      obtain ⟨r, hr⟩ : ∃ r, (x : Int) % 7 = r := ⟨_, rfl⟩
      have hr2 : (x : Int).tmod 7 = r := by rw [Int.tmod_eq_emod_of_nonneg (by omega)]; exact hr
      have hr0 : 0 ≤ r := by omega
      have hr7 : r < 7 := by omega
      obtain ⟨W2, hW2⟩ : ∃ W2 : Nat, (1 : Int) + r = W2 := ⟨(1 + r).toNat, by omega⟩
      have hW21 : 1 ≤ W2 := by omega
      have hW27 : W2 ≤ 7 := by omega
      have hww : IntKind.i64.wrap r = r := Bit.i64_wrap _ (by omega) (by omega)
      go_wp2_with fail
      refine (at_any ad len cap 1 (by decide) (by decide) _ hC5.out HLE.out).mono ?_
      rintro e w5 ⟨y, hy, rfl, hw5⟩
      subst w5
      clear hr hr2 hr0 hr7 hW2 hww hx
      obtain ⟨r, hr⟩ : ∃ r, (y : Int) % 7 = r := ⟨_, rfl⟩
      have hr2 : (y : Int).tmod 7 = r := by rw [Int.tmod_eq_emod_of_nonneg (by omega)]; exact hr
      have hr0 : 0 ≤ r := by omega
      have hr7 : r < 7 := by omega
      obtain ⟨H2, hH2⟩ : ∃ H2 : Nat, (1 : Int) + r = H2 := ⟨(1 + r).toNat, by omega⟩
      have hH21 : 1 ≤ H2 := by omega
      have hH27 : H2 ≤ 7 := by omega
      have hww : IntKind.i64.wrap r = r := Bit.i64_wrap _ (by omega) (by omega)
      go_wp2_with fail
      clear hr hr2 hr0 hr7 hH2 hww hy
      refine (BoardOk_b true W H S (bOk_of HOK.out) _).mono ?_
      rintro e w5 ⟨rfl, hB5⟩
      replace b0 := cell_kept b0 hB5
      replace b1 := cell_kept b1 hB5
      replace b2 := cell_kept b2 hB5
      replace hBel := Lib.hid (hBel.out.andThen hB5)
      clear hB5
      have hCb := CountHoles_any W H S
      rw [HCNT.out] at hCb
      have hCr := CountHoles_any W2 H2 (2 ^ (W2 * H2) - 1 : Nat)
      rw [rect_count W2 H2 hW21 hW27 hH21 hH27] at hCr
      have hCc := CountHoles_any 7 7 (crossTo 49 : Nat)
      rw [cross_pc] at hCc
      have hRc := implRectB_ok W2 H2 hW21 hW27 hH21 hH27
      have hM49 : W2 * H2 ≤ 49 := area_le hW27 hH27
      have hMI : (W2 : Int) * (H2 : Int) = ((W2 * H2 : Nat) : Int) := (Int.natCast_mul _ _).symm
      obtain ⟨M, hM⟩ : ∃ M, W2 * H2 = M := ⟨_, rfl⟩
      rw [hM] at hCr hM49 hMI hRc
      obtain ⟨SR, hSR⟩ : ∃ SR : Nat, 2 ^ M - 1 = SR := ⟨_, rfl⟩
      rw [hSR] at hRc hCr
      have hMw : IntKind.i64.wrap (M : Int) = M := Bit.i64_wrap _ (by omega) (by omega)
      have HCb := Lib.hid hCb
      have HCr := Lib.hid hCr
      have HCc := Lib.hid hCc
      have HRc := Lib.hid hRc
      have hno := no_hole HOK.out
      obtain ⟨hN1, hN2⟩ := mul_bd2 HOK.out
      obtain ⟨N, hN⟩ : ∃ N : Int, (W : Int) * (H : Int) = N := ⟨_, rfl⟩
      rw [hN] at hno hN1 hN2
      have hNw : IntKind.i64.wrap N = N := Bit.i64_wrap _ (by omega) (by omega)
      have HNO := Lib.hid hno
      clear hCb hCr hCc hRc hM hSR hno
      go_wp2_with fail
      refine (HCb.out _).mono ?_
      rintro e w6 ⟨rfl, hB6⟩
      replace b0 := cell_kept b0 hB6
      replace b1 := cell_kept b1 hB6
      replace b2 := cell_kept b2 hB6
      replace hBel := Lib.hid (hBel.out.andThen hB6)
      clear hB6
      go_wp2_with fail
      refine (HRc.out _).mono ?_
      rintro e w7 ⟨rfl, hB7⟩
      replace b0 := cell_kept b0 hB7
      replace b1 := cell_kept b1 hB7
      replace b2 := cell_kept b2 hB7
      replace hBel := Lib.hid (hBel.out.andThen hB7)
      clear hB7
      go_wp2_with fail
      refine (HCr.out _).mono ?_
      rintro e w8 ⟨rfl, hB8⟩
      replace b0 := cell_kept b0 hB8
      replace b1 := cell_kept b1 hB8
      replace b2 := cell_kept b2 hB8
      replace hBel := Lib.hid (hBel.out.andThen hB8)
      clear hB8
      go_wp2_with fail
      refine (CrossBoard_any _).mono ?_
      rintro e w9 ⟨rfl, hB9⟩
      replace b0 := cell_kept b0 hB9
      replace b1 := cell_kept b1 hB9
      replace b2 := cell_kept b2 hB9
      replace hBel := Lib.hid (hBel.out.andThen hB9)
      clear hB9
      go_wp2_with fail
      refine (HCc.out _).mono ?_
      rintro e wa ⟨rfl, hBa⟩
      replace b0 := cell_kept b0 hBa
      replace b1 := cell_kept b1 hBa
      replace b2 := cell_kept b2 hBa
      replace hBel := Lib.hid (hBel.out.andThen hBa)
      clear hBa
      go_wp2_with fail
      refine (HasHole_b false W H S N HNO.out _).mono ?_
      rintro e wb ⟨rfl, hBb⟩
      replace hBel := Lib.hid (hBel.out.andThen hBb)
      clear hBb
      go_wp2
      go_ret
      exact ⟨by first | rfl | simp, hBel.out⟩
end Go.Proofs.YtnnoahoepljejaaDoor
