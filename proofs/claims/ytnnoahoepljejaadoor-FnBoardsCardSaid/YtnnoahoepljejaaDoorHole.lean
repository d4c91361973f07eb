/-
  The walks of HoleName (impl and spec) and of its law.
-/
import Derived.Test.YtnnoahoepljejaaDoorLawFmt
import Derived.Test.YtnnoahoepljejaaDoorWalkA
import Derived.Test.YtnnoahoepljejaaDoorWalkB
import Derived.Lib.ItoaLen
import Derived.Deep.RegionHeld3
namespace Go.Proofs.YtnnoahoepljejaaDoor
open Go.RowKit
open Peg
set_option linter.unusedVariables false
set_option linter.unusedSimpArgs false

def letter (x : Nat) : ByteArray := ⟨#[UInt8.ofNat (97 + x)]⟩
theorem letter_enc (x : Nat) (h : x ≤ 6) : Utf8.encode (97 + (x : Int)) = letter x := by
  have : x = 0 ∨ x = 1 ∨ x = 2 ∨ x = 3 ∨ x = 4 ∨ x = 5 ∨ x = 6 := by omega
  rcases this with rfl | rfl | rfl | rfl | rfl | rfl | rfl <;> rfl
theorem letter_cut (x : Nat) (h : x ≤ 6) : (⟨#[97, 98, 99, 100, 101, 102, 103]⟩ : ByteArray).extract x (x + 1) = letter x := by
  have : x = 0 ∨ x = 1 ∨ x = 2 ∨ x = 3 ∨ x = 4 ∨ x = 5 ∨ x = 6 := by omega
  rcases this with rfl | rfl | rfl | rfl | rfl | rfl | rfl <;> rfl
theorem cell_keptH {w w1 : World} {n o : Nat} {v : Value} (h : w.cell? ⟨n, o, none⟩ = some v) (hb : Below w.heap.size w w1) : w1.cell? ⟨n, o, none⟩ = some v :=
  (hb.cell (p := ⟨n, o, none⟩) (World.block_lt_of_cell? w _ h)).trans h
theorem boxNew (w : World) (a h s : Int) (t : TypeId) : (w.alloc (.cells #[.int .i64 a, .int .i64 h, .int .i64 s] t)).cell? ⟨w.heap.size, 0, none⟩ = some (.int .i64 a) ∧ (w.alloc (.cells #[.int .i64 a, .int .i64 h, .int .i64 s] t)).cell? ⟨w.heap.size, 1, none⟩ = some (.int .i64 h) ∧ (w.alloc (.cells #[.int .i64 a, .int .i64 h, .int .i64 s] t)).cell? ⟨w.heap.size, 2, none⟩ = some (.int .i64 s) := by
  refine ⟨?_, ?_, ?_⟩ <;> (rw [World.cell?_alloc_at _ _ _ _ rfl]; rfl)
theorem mod_bdH {W H S K : Nat} (ok : Ok W H S) (hk : K < W * H) : ∃ X Y : Nat, K % W = X ∧ K / W = Y ∧ (K : Int) % (W : Int) = X ∧ (K : Int) / (W : Int) = Y ∧ X ≤ 6 ∧ Y ≤ 6 := by
  have h1 := Nat.mod_lt K (show W > 0 from ok.w1)
  have h2 : K / W < H := Nat.div_lt_of_lt_mul hk
  have := ok.w7
  have := ok.h7
  exact ⟨_, _, rfl, rfl, by simp, by simp, by omega, by omega⟩
theorem itoa_small (n : Int) (h0 : -9223372036854775808 ≤ n) (h1 : n ≤ 9223372036854775807) : (itoaB n).size ≤ 21 := by
  have := Lib.itoa_length_le n h0 h1
  unfold itoaB
  show (Lib.itoa n).toArray.size ≤ 21
  simpa using this
def holeT (a h s k : Int) : ByteArray := if hasB a h s k then letter (k.toNat % a.toNat) ++ itoaB (((k.toNat / a.toNat : Nat) : Int) + 1) else ByteArray.empty
theorem holeT_no {a h s k : Int} (h1 : hasB a h s k = false) : holeT a h s k = ByteArray.empty := by unfold holeT; rw [h1]; rfl
theorem holeT_yes {W H S K : Nat} (h1 : hasB W H S K = true) : holeT W H S K = letter (K % W) ++ itoaB (((K / W : Nat) : Int) + 1) := by unfold holeT; rw [h1]; rfl
theorem held3T {w w' w1 : World} {n : Nat} {a b c : Value} (h : w'.cell? ⟨n, 0, none⟩ = some a ∧ w'.cell? ⟨n, 1, none⟩ = some b ∧ w'.cell? ⟨n, 2, none⟩ = some c ∧ Tab w' ∧ Below w.heap.size w w') (hb : Below w'.heap.size w' w1) :
    w1.cell? ⟨n, 0, none⟩ = some a ∧ w1.cell? ⟨n, 1, none⟩ = some b ∧ w1.cell? ⟨n, 2, none⟩ = some c ∧ Tab w1 ∧ Below w.heap.size w w1 := by
  obtain ⟨h0, h1, h2, h3, h4⟩ := h
  exact ⟨cell_keptH h0 hb, cell_keptH h1 hb, cell_keptH h2 hb, tab_kept h3 hb, h4.andThen hb⟩
theorem tabNow {w w' : World} {n : Nat} {a b c : Value} (h : w'.cell? ⟨n, 0, none⟩ = some a ∧ w'.cell? ⟨n, 1, none⟩ = some b ∧ w'.cell? ⟨n, 2, none⟩ = some c ∧ Tab w' ∧ Below w.heap.size w w') : Tab w' := h.2.2.2.1
theorem tab_drew {w : World} (h : Tab w) : Tab w.drew := tab_kept h (Below.drew (Below.refl _ _))

theorem HoleName_no (a h s k : Int) (h1 : hasB a h s k = false) (w : World) :
    Calls Tryd.prog 15 #[.agg #[.int .i64 a, .int .i64 h, .int .i64 s], .int .i64 k] w fun e w' => e = .returned (.string (holeT a h s k)) ∧ Below w.heap.size w w' := by
  rw [holeT_no h1]
  go_enter Tryd.func15, Tryd.ntmps15
  go_wp2_with fail
  refine (HasHole_b false _ _ _ _ h1 _).mono ?_
  rintro e w1 ⟨rfl, hB1⟩
  go_wp2
  go_ret
  exact ⟨rfl, (below1 _ _).andThen hB1⟩

set_option maxHeartbeats 800000 in
theorem HoleName_yes (W H S K : Nat) (ok : Ok W H S) (hk : K < W * H) (h1 : hasB W H S K = true) (w : World) (htab : Tab w) :
    Calls Tryd.prog 15 #[.agg #[.int .i64 W, .int .i64 H, .int .i64 S], .int .i64 K] w fun e w' => e = .returned (.string (holeT W H S K)) ∧ Below w.heap.size w w' := by
  rw [holeT_yes h1]
  obtain ⟨X, Y, m1, m2, hX, hY, hX6, hY6⟩ := mod_bdH ok hk
  rw [m1, m2]
  have hw1 : (1 : Int) ≤ (W : Int) := by have := ok.w1; omega
  have hw7 : (W : Int) ≤ 7 := by have := ok.w7; omega
  have hK48 : (K : Int) ≤ 48 := by have := ok.area; omega
  have hXt : ((K : Nat) : Int).tmod (W : Int) = (X : Int) := by rw [Int.tmod_eq_emod_of_nonneg (by omega)]; exact hX
  have hYt : ((K : Nat) : Int).tdiv (W : Int) = (Y : Int) := by rw [Int.tdiv_eq_ediv_of_nonneg (by omega)]; exact hY
  have hWn : (W : Int) ≠ 0 := by omega
  have hW0 : ¬ W = 0 := by omega
  have hwx : IntKind.i64.wrap (X : Int) = (X : Int) := Bit.i64_wrap _ (by omega) (by omega)
  have hwy : IntKind.i64.wrap (Y : Int) = (Y : Int) := Bit.i64_wrap _ (by omega) (by omega)
  have hwx1 : IntKind.i64.wrap (97 + (X : Int)) = 97 + (X : Int) := Bit.i64_wrap _ (by omega) (by omega)
  have hwx2 : IntKind.i64.wrap ((X : Int) + 1) = (X : Int) + 1 := Bit.i64_wrap _ (by omega) (by omega)
  have hwy1 : IntKind.i64.wrap ((Y : Int) + 1) = (Y : Int) + 1 := Bit.i64_wrap _ (by omega) (by omega)
  have he := letter_enc X hX6
  have hc := letter_cut X hX6
  have hsz := itoa_small ((Y : Int) + 1) (by omega) (by omega)
  have hov : ¬ 9223372036854775807 < (letter X).size + (itoaB ((Y : Int) + 1)).size := by have : (letter X).size = 1 := rfl; omega
  have hx0 : (0 : Int) ≤ (X : Int) := by omega
  have hx1 : (X : Int) + 1 ≤ 7 := by omega
  have hx2 : (X : Int) ≤ (X : Int) + 1 := by omega
  have ht2 : ((X : Int) + 1).toNat = X + 1 := by omega
  have hi32 : IntKind.i32.wrap (97 + (X : Int)) = 97 + (X : Int) := by unfold IntKind.wrap; simp [IntKind.bits, IntKind.signed]; omega
  obtain ⟨T, hT⟩ : ∃ T, itoaB ((Y : Int) + 1) = T := ⟨_, rfl⟩
  have hfi := fun w (ht : Tab w) => FormatInt_any ((Y : Int) + 1) (by omega) (by omega) w ht
  have hfs := fun w => specFormatInt_any ((Y : Int) + 1) (by omega) (by omega) w
  rw [hT] at hov hfi hfs ⊢
  have HFI := Lib.hid hfi
  have HFS := Lib.hid hfs
  have HT := Lib.hid htab
  have H1 := Lib.hid h1
  clear hT hsz ok hk m1 m2 hfi hfs htab h1
  go_enter Tryd.func15, Tryd.ntmps15
  have X0 := boxNew w W H S 25
  obtain ⟨b0, b1, b2⟩ := X0
  have hB0 := below1 w (.cells #[.int .i64 W, .int .i64 H, .int .i64 S] 25)
  go_wp2_with fail
  refine (HasHole_b true _ _ _ _ H1.out _).mono ?_
  rintro e w1 ⟨rfl, hB1⟩
  replace b0 := cell_keptH b0 hB1
  replace b1 := cell_keptH b1 hB1
  replace b2 := cell_keptH b2 hB1
  have hBel := hB0.andThen hB1
  have ht1 : Tab w1 := tab_kept HT.out hBel
  clear hB0 hB1
  go_wp2_with fail
  refine wp_region_held_drew (S := (fun w' : World => w'.cell? ⟨w.heap.size, 0, none⟩ = some (.int .i64 W) ∧ w'.cell? ⟨w.heap.size, 1, none⟩ = some (.int .i64 H) ∧ w'.cell? ⟨w.heap.size, 2, none⟩ = some (.int .i64 S) ∧ Tab w' ∧ Below w.heap.size w w')) (by kernel_rfl) ⟨b0, b1, b2, tab_drew ht1, hBel.drew⟩ (fun hHeld => ?_)
  clear b0 b1 b2 ht1 hBel
  refine takeE (i := 0) (d := some 9) (v := .int .i64 K) rfl (by kernel_rfl) (by kernel_rfl) (by kernel_rfl) rfl (fun _ _ _ h => h) (Or.inl ⟨by kernel_rfl, fun w1 hS1 => by rfl⟩) hHeld ?_
  simp only [Act.put, List.setIfInBounds_toArray, List.set_cons_zero, List.set_cons_succ]
  refine takeE (i := 1) (d := some 10) (v := .pointer (some ⟨w.heap.size, 0, none⟩)) rfl (by kernel_rfl) (by kernel_rfl) (by kernel_rfl) rfl (fun _ _ _ h => h) (Or.inl ⟨by kernel_rfl, fun w1 hS1 => by (try dsimp only at hS1); go_simp⟩) hHeld ?_
  simp only [Act.put, List.setIfInBounds_toArray, List.set_cons_zero, List.set_cons_succ]
  refine takeE (i := 2) (d := some 11) (v := .int .i64 W) rfl (by kernel_rfl) (by kernel_rfl) (by kernel_rfl) rfl (fun _ _ _ h => h) (Or.inl ⟨by kernel_rfl, fun w1 hS1 => by (try dsimp only at hS1); go_simp⟩) hHeld ?_
  simp only [Act.put, List.setIfInBounds_toArray, List.set_cons_zero, List.set_cons_succ]
  refine takeE (i := 3) (d := some 12) (v := .int .i64 X) rfl (by kernel_rfl) (by kernel_rfl) (by kernel_rfl) rfl (fun _ _ _ h => h) (Or.inl ⟨by kernel_rfl, fun w1 hS1 => by (try dsimp only at hS1); go_simp⟩) hHeld ?_
  simp only [Act.put, List.setIfInBounds_toArray, List.set_cons_zero, List.set_cons_succ]
  refine takeE (i := 4) (d := some 13) (v := .int .i64 (97 + (X : Int))) rfl (by kernel_rfl) (by kernel_rfl) (by kernel_rfl) rfl (fun _ _ _ h => h) (Or.inl ⟨by kernel_rfl, fun w1 hS1 => by (try dsimp only at hS1); go_simp⟩) hHeld ?_
  simp only [Act.put, List.setIfInBounds_toArray, List.set_cons_zero, List.set_cons_succ]
  refine takeE (i := 5) (d := some 14) (v := .int .i32 (97 + (X : Int))) rfl (by kernel_rfl) (by kernel_rfl) (by kernel_rfl) rfl (fun _ _ _ h => h) (Or.inl ⟨by kernel_rfl, fun w1 hS1 => by (try dsimp only at hS1); go_simp⟩) hHeld ?_
  simp only [Act.put, List.setIfInBounds_toArray, List.set_cons_zero, List.set_cons_succ]
  refine takeE (i := 6) (d := some 15) (v := .string (letter X)) rfl (by kernel_rfl) (by kernel_rfl) (by kernel_rfl) rfl (fun _ _ _ h => h) (Or.inl ⟨by kernel_rfl, fun w1 hS1 => by (try dsimp only at hS1); go_simp⟩) hHeld ?_
  simp only [Act.put, List.setIfInBounds_toArray, List.set_cons_zero, List.set_cons_succ]
  refine takeE (i := 7) (d := some 16) (v := .int .i64 K) rfl (by kernel_rfl) (by kernel_rfl) (by kernel_rfl) rfl (fun _ _ _ h => h) (Or.inl ⟨by kernel_rfl, fun w1 hS1 => by rfl⟩) hHeld ?_
  simp only [Act.put, List.setIfInBounds_toArray, List.set_cons_zero, List.set_cons_succ]
  refine takeE (i := 8) (d := some 17) (v := .pointer (some ⟨w.heap.size, 0, none⟩)) rfl (by kernel_rfl) (by kernel_rfl) (by kernel_rfl) rfl (fun _ _ _ h => h) (Or.inl ⟨by kernel_rfl, fun w1 hS1 => by (try dsimp only at hS1); go_simp⟩) hHeld ?_
  simp only [Act.put, List.setIfInBounds_toArray, List.set_cons_zero, List.set_cons_succ]
  refine takeE (i := 9) (d := some 18) (v := .int .i64 W) rfl (by kernel_rfl) (by kernel_rfl) (by kernel_rfl) rfl (fun _ _ _ h => h) (Or.inl ⟨by kernel_rfl, fun w1 hS1 => by (try dsimp only at hS1); go_simp⟩) hHeld ?_
  simp only [Act.put, List.setIfInBounds_toArray, List.set_cons_zero, List.set_cons_succ]
  refine takeE (i := 10) (d := some 19) (v := .int .i64 Y) rfl (by kernel_rfl) (by kernel_rfl) (by kernel_rfl) rfl (fun _ _ _ h => h) (Or.inl ⟨by kernel_rfl, fun w1 hS1 => by (try dsimp only at hS1); go_simp⟩) hHeld ?_
  simp only [Act.put, List.setIfInBounds_toArray, List.set_cons_zero, List.set_cons_succ]
  refine takeE (i := 11) (d := some 20) (v := .int .i64 ((Y : Int) + 1)) rfl (by kernel_rfl) (by kernel_rfl) (by kernel_rfl) rfl (fun _ _ _ h => h) (Or.inl ⟨by kernel_rfl, fun w1 hS1 => by (try dsimp only at hS1); go_simp⟩) hHeld ?_
  simp only [Act.put, List.setIfInBounds_toArray, List.set_cons_zero, List.set_cons_succ]
  refine wpAnyH_ready (rs := [12]) (by kernel_rfl) (by simp) ?_
  refine AllReadyH.cons rfl (fun KK hK => ?_) AllReadyH.nil
  go_simp
  go_at_call 24
  refine (HFI.out _ hHeld.2.2.2.1).mono ?_
  rintro e wx ⟨rfl, hBx⟩
  (try go_simp)
  refine hK.out _ _ (held3T hHeld hBx) (fun hHeld2 => ?_)
  clear hK KK hHeld
  have hHeld := hHeld2
  clear hHeld2
  (try simp only [Act.put, List.setIfInBounds_toArray, List.set_cons_zero, List.set_cons_succ])
  refine takeE (i := 13) (d := some 22) (v := .string (letter X ++ T)) rfl (by kernel_rfl) (by kernel_rfl) (by kernel_rfl) rfl (fun _ _ _ h => h) (Or.inl ⟨by kernel_rfl, fun w1 hS1 => by (try dsimp only at hS1); go_simp⟩) hHeld ?_
  simp only [Act.put, List.setIfInBounds_toArray, List.set_cons_zero, List.set_cons_succ]
  refine takeE (i := 14) (d := some 4) (v := .string (letter X ++ T)) rfl (by kernel_rfl) (by kernel_rfl) (by kernel_rfl) rfl (fun _ _ _ h => h) (Or.inl ⟨by kernel_rfl, fun w1 hS1 => by rfl⟩) hHeld ?_
  simp only [Act.put, List.setIfInBounds_toArray, List.set_cons_zero, List.set_cons_succ]
  refine wpAnyH_done (by kernel_rfl) ?_ _
  go_wp2
  go_ret
  exact ⟨rfl, hHeld.2.2.2.2⟩

theorem HoleName_any (a h s k : Int) (w : World) (htab : Tab w) :
    Calls Tryd.prog 15 #[.agg #[.int .i64 a, .int .i64 h, .int .i64 s], .int .i64 k] w fun e w' => e = .returned (.string (holeT a h s k)) ∧ Below w.heap.size w w' := by
  cases h1 : hasB a h s k
  · exact HoleName_no a h s k h1 w
  · have hb : bOk a h s = true := by unfold hasB at h1; simp only [Bool.and_eq_true] at h1; exact h1.1
    obtain ⟨W, H, S, rfl, rfl, rfl, ok⟩ := (bOk_iff _ _ _).1 hb
    obtain ⟨K, rfl, hk, _⟩ := (hasB_iff ok k).1 h1
    exact HoleName_yes W H S K ok hk h1 w htab

theorem specHoleName_no (a h s k : Int) (h1 : hasB a h s k = false) (w : World) :
    Calls Tryd.prog 26 #[.agg #[.int .i64 a, .int .i64 h, .int .i64 s], .int .i64 k] w fun e w' => e = .returned (.string (holeT a h s k)) ∧ Below w.heap.size w w' := by
  rw [holeT_no h1]
  go_enter Tryd.func26, Tryd.ntmps26
  go_wp2_with fail
  refine (specHasHole_b false _ _ _ _ h1 _).mono ?_
  rintro e w1 ⟨rfl, hB1⟩
  go_wp2
  go_ret
  exact ⟨rfl, (below1 _ _).andThen hB1⟩

set_option maxHeartbeats 800000 in
theorem specHoleName_yes (W H S K : Nat) (ok : Ok W H S) (hk : K < W * H) (h1 : hasB W H S K = true) (w : World) (htab : Tab w) :
    Calls Tryd.prog 26 #[.agg #[.int .i64 W, .int .i64 H, .int .i64 S], .int .i64 K] w fun e w' => e = .returned (.string (holeT W H S K)) ∧ Below w.heap.size w w' := by
  rw [holeT_yes h1]
  obtain ⟨X, Y, m1, m2, hX, hY, hX6, hY6⟩ := mod_bdH ok hk
  rw [m1, m2]
  have hw1 : (1 : Int) ≤ (W : Int) := by have := ok.w1; omega
  have hw7 : (W : Int) ≤ 7 := by have := ok.w7; omega
  have hK48 : (K : Int) ≤ 48 := by have := ok.area; omega
  have hXt : ((K : Nat) : Int).tmod (W : Int) = (X : Int) := by rw [Int.tmod_eq_emod_of_nonneg (by omega)]; exact hX
  have hYt : ((K : Nat) : Int).tdiv (W : Int) = (Y : Int) := by rw [Int.tdiv_eq_ediv_of_nonneg (by omega)]; exact hY
  have hWn : (W : Int) ≠ 0 := by omega
  have hW0 : ¬ W = 0 := by omega
  have hwx : IntKind.i64.wrap (X : Int) = (X : Int) := Bit.i64_wrap _ (by omega) (by omega)
  have hwy : IntKind.i64.wrap (Y : Int) = (Y : Int) := Bit.i64_wrap _ (by omega) (by omega)
  have hwx1 : IntKind.i64.wrap (97 + (X : Int)) = 97 + (X : Int) := Bit.i64_wrap _ (by omega) (by omega)
  have hwx2 : IntKind.i64.wrap ((X : Int) + 1) = (X : Int) + 1 := Bit.i64_wrap _ (by omega) (by omega)
  have hwy1 : IntKind.i64.wrap ((Y : Int) + 1) = (Y : Int) + 1 := Bit.i64_wrap _ (by omega) (by omega)
  have he := letter_enc X hX6
  have hc := letter_cut X hX6
  have hsz := itoa_small ((Y : Int) + 1) (by omega) (by omega)
  have hov : ¬ 9223372036854775807 < (letter X).size + (itoaB ((Y : Int) + 1)).size := by have : (letter X).size = 1 := rfl; omega
  have hx0 : (0 : Int) ≤ (X : Int) := by omega
  have hx1 : (X : Int) + 1 ≤ 7 := by omega
  have hx2 : (X : Int) ≤ (X : Int) + 1 := by omega
  have ht2 : ((X : Int) + 1).toNat = X + 1 := by omega
  have hi32 : IntKind.i32.wrap (97 + (X : Int)) = 97 + (X : Int) := by unfold IntKind.wrap; simp [IntKind.bits, IntKind.signed]; omega
  obtain ⟨T, hT⟩ : ∃ T, itoaB ((Y : Int) + 1) = T := ⟨_, rfl⟩
  have hfi := fun w (ht : Tab w) => FormatInt_any ((Y : Int) + 1) (by omega) (by omega) w ht
  have hfs := fun w => specFormatInt_any ((Y : Int) + 1) (by omega) (by omega) w
  rw [hT] at hov hfi hfs ⊢
  have HFI := Lib.hid hfi
  have HFS := Lib.hid hfs
  have HT := Lib.hid htab
  have H1 := Lib.hid h1
  clear hT hsz ok hk m1 m2 hfi hfs htab h1
  go_enter Tryd.func26, Tryd.ntmps26
  have X0 := boxNew w W H S 25
  obtain ⟨b0, b1, b2⟩ := X0
  have hB0 := below1 w (.cells #[.int .i64 W, .int .i64 H, .int .i64 S] 25)
  go_wp2_with fail
  refine (specHasHole_b true _ _ _ _ H1.out _).mono ?_
  rintro e w1 ⟨rfl, hB1⟩
  replace b0 := cell_keptH b0 hB1
  replace b1 := cell_keptH b1 hB1
  replace b2 := cell_keptH b2 hB1
  have hBel := hB0.andThen hB1
  have ht1 : Tab w1 := tab_kept HT.out hBel
  clear hB0 hB1
  go_wp2_with fail
  refine wp_region_held_drew (S := (fun w' : World => w'.cell? ⟨w.heap.size, 0, none⟩ = some (.int .i64 W) ∧ w'.cell? ⟨w.heap.size, 1, none⟩ = some (.int .i64 H) ∧ w'.cell? ⟨w.heap.size, 2, none⟩ = some (.int .i64 S) ∧ Tab w' ∧ Below w.heap.size w w')) (by kernel_rfl) ⟨b0, b1, b2, tab_drew ht1, hBel.drew⟩ (fun hHeld => ?_)
  clear b0 b1 b2 ht1 hBel
  refine takeE (i := 0) (d := some 9) (v := .int .i64 K) rfl (by kernel_rfl) (by kernel_rfl) (by kernel_rfl) rfl (fun _ _ _ h => h) (Or.inl ⟨by kernel_rfl, fun w1 hS1 => by rfl⟩) hHeld ?_
  simp only [Act.put, List.setIfInBounds_toArray, List.set_cons_zero, List.set_cons_succ]
  refine takeE (i := 1) (d := some 10) (v := .pointer (some ⟨w.heap.size, 0, none⟩)) rfl (by kernel_rfl) (by kernel_rfl) (by kernel_rfl) rfl (fun _ _ _ h => h) (Or.inl ⟨by kernel_rfl, fun w1 hS1 => by (try dsimp only at hS1); go_simp⟩) hHeld ?_
  simp only [Act.put, List.setIfInBounds_toArray, List.set_cons_zero, List.set_cons_succ]
  refine takeE (i := 2) (d := some 11) (v := .int .i64 W) rfl (by kernel_rfl) (by kernel_rfl) (by kernel_rfl) rfl (fun _ _ _ h => h) (Or.inl ⟨by kernel_rfl, fun w1 hS1 => by (try dsimp only at hS1); go_simp⟩) hHeld ?_
  simp only [Act.put, List.setIfInBounds_toArray, List.set_cons_zero, List.set_cons_succ]
  refine takeE (i := 3) (d := some 12) (v := .int .i64 X) rfl (by kernel_rfl) (by kernel_rfl) (by kernel_rfl) rfl (fun _ _ _ h => h) (Or.inl ⟨by kernel_rfl, fun w1 hS1 => by (try dsimp only at hS1); go_simp⟩) hHeld ?_
  simp only [Act.put, List.setIfInBounds_toArray, List.set_cons_zero, List.set_cons_succ]
  refine takeE (i := 4) (d := some 13) (v := .int .i64 K) rfl (by kernel_rfl) (by kernel_rfl) (by kernel_rfl) rfl (fun _ _ _ h => h) (Or.inl ⟨by kernel_rfl, fun w1 hS1 => by rfl⟩) hHeld ?_
  simp only [Act.put, List.setIfInBounds_toArray, List.set_cons_zero, List.set_cons_succ]
  refine takeE (i := 5) (d := some 14) (v := .pointer (some ⟨w.heap.size, 0, none⟩)) rfl (by kernel_rfl) (by kernel_rfl) (by kernel_rfl) rfl (fun _ _ _ h => h) (Or.inl ⟨by kernel_rfl, fun w1 hS1 => by (try dsimp only at hS1); go_simp⟩) hHeld ?_
  simp only [Act.put, List.setIfInBounds_toArray, List.set_cons_zero, List.set_cons_succ]
  refine takeE (i := 6) (d := some 15) (v := .int .i64 W) rfl (by kernel_rfl) (by kernel_rfl) (by kernel_rfl) rfl (fun _ _ _ h => h) (Or.inl ⟨by kernel_rfl, fun w1 hS1 => by (try dsimp only at hS1); go_simp⟩) hHeld ?_
  simp only [Act.put, List.setIfInBounds_toArray, List.set_cons_zero, List.set_cons_succ]
  refine takeE (i := 7) (d := some 16) (v := .int .i64 X) rfl (by kernel_rfl) (by kernel_rfl) (by kernel_rfl) rfl (fun _ _ _ h => h) (Or.inl ⟨by kernel_rfl, fun w1 hS1 => by (try dsimp only at hS1); go_simp⟩) hHeld ?_
  simp only [Act.put, List.setIfInBounds_toArray, List.set_cons_zero, List.set_cons_succ]
  refine takeE (i := 8) (d := some 17) (v := .int .i64 ((X : Int) + 1)) rfl (by kernel_rfl) (by kernel_rfl) (by kernel_rfl) rfl (fun _ _ _ h => h) (Or.inl ⟨by kernel_rfl, fun w1 hS1 => by (try dsimp only at hS1); go_simp⟩) hHeld ?_
  simp only [Act.put, List.setIfInBounds_toArray, List.set_cons_zero, List.set_cons_succ]
  refine takeE (i := 9) (d := some 18) (v := .string (letter X)) rfl (by kernel_rfl) (by kernel_rfl) (by kernel_rfl) rfl (fun _ _ _ h => h) (Or.inl ⟨by kernel_rfl, fun w1 hS1 => by (try dsimp only at hS1); go_simp⟩) hHeld ?_
  simp only [Act.put, List.setIfInBounds_toArray, List.set_cons_zero, List.set_cons_succ]
  refine takeE (i := 10) (d := some 19) (v := .int .i64 K) rfl (by kernel_rfl) (by kernel_rfl) (by kernel_rfl) rfl (fun _ _ _ h => h) (Or.inl ⟨by kernel_rfl, fun w1 hS1 => by rfl⟩) hHeld ?_
  simp only [Act.put, List.setIfInBounds_toArray, List.set_cons_zero, List.set_cons_succ]
  refine takeE (i := 11) (d := some 20) (v := .pointer (some ⟨w.heap.size, 0, none⟩)) rfl (by kernel_rfl) (by kernel_rfl) (by kernel_rfl) rfl (fun _ _ _ h => h) (Or.inl ⟨by kernel_rfl, fun w1 hS1 => by (try dsimp only at hS1); go_simp⟩) hHeld ?_
  simp only [Act.put, List.setIfInBounds_toArray, List.set_cons_zero, List.set_cons_succ]
  refine takeE (i := 12) (d := some 21) (v := .int .i64 W) rfl (by kernel_rfl) (by kernel_rfl) (by kernel_rfl) rfl (fun _ _ _ h => h) (Or.inl ⟨by kernel_rfl, fun w1 hS1 => by (try dsimp only at hS1); go_simp⟩) hHeld ?_
  simp only [Act.put, List.setIfInBounds_toArray, List.set_cons_zero, List.set_cons_succ]
  refine takeE (i := 13) (d := some 22) (v := .int .i64 Y) rfl (by kernel_rfl) (by kernel_rfl) (by kernel_rfl) rfl (fun _ _ _ h => h) (Or.inl ⟨by kernel_rfl, fun w1 hS1 => by (try dsimp only at hS1); go_simp⟩) hHeld ?_
  simp only [Act.put, List.setIfInBounds_toArray, List.set_cons_zero, List.set_cons_succ]
  refine takeE (i := 14) (d := some 23) (v := .int .i64 ((Y : Int) + 1)) rfl (by kernel_rfl) (by kernel_rfl) (by kernel_rfl) rfl (fun _ _ _ h => h) (Or.inl ⟨by kernel_rfl, fun w1 hS1 => by (try dsimp only at hS1); go_simp⟩) hHeld ?_
  simp only [Act.put, List.setIfInBounds_toArray, List.set_cons_zero, List.set_cons_succ]
  refine wpAnyH_ready (rs := [15]) (by kernel_rfl) (by simp) ?_
  refine AllReadyH.cons rfl (fun KK hK => ?_) AllReadyH.nil
  go_simp
  go_at_call 25
  refine (HFS.out _).mono ?_
  rintro e wx ⟨rfl, hBx⟩
  (try go_simp)
  refine hK.out _ _ (held3T hHeld hBx) (fun hHeld2 => ?_)
  clear hK KK hHeld
  have hHeld := hHeld2
  clear hHeld2
  (try simp only [Act.put, List.setIfInBounds_toArray, List.set_cons_zero, List.set_cons_succ])
  refine takeE (i := 16) (d := some 25) (v := .string (letter X ++ T)) rfl (by kernel_rfl) (by kernel_rfl) (by kernel_rfl) rfl (fun _ _ _ h => h) (Or.inl ⟨by kernel_rfl, fun w1 hS1 => by (try dsimp only at hS1); go_simp⟩) hHeld ?_
  simp only [Act.put, List.setIfInBounds_toArray, List.set_cons_zero, List.set_cons_succ]
  refine takeE (i := 17) (d := some 4) (v := .string (letter X ++ T)) rfl (by kernel_rfl) (by kernel_rfl) (by kernel_rfl) rfl (fun _ _ _ h => h) (Or.inl ⟨by kernel_rfl, fun w1 hS1 => by rfl⟩) hHeld ?_
  simp only [Act.put, List.setIfInBounds_toArray, List.set_cons_zero, List.set_cons_succ]
  refine wpAnyH_done (by kernel_rfl) ?_ _
  go_wp2
  go_ret
  exact ⟨rfl, hHeld.2.2.2.2⟩

theorem specHoleName_any (a h s k : Int) (w : World) (htab : Tab w) :
    Calls Tryd.prog 26 #[.agg #[.int .i64 a, .int .i64 h, .int .i64 s], .int .i64 k] w fun e w' => e = .returned (.string (holeT a h s k)) ∧ Below w.heap.size w w' := by
  cases h1 : hasB a h s k
  · exact specHoleName_no a h s k h1 w
  · have hb : bOk a h s = true := by unfold hasB at h1; simp only [Bool.and_eq_true] at h1; exact h1.1
    obtain ⟨W, H, S, rfl, rfl, rfl, ok⟩ := (bOk_iff _ _ _).1 hb
    obtain ⟨K, rfl, hk, _⟩ := (hasB_iff ok k).1 h1
    exact specHoleName_yes W H S K ok hk h1 w htab


set_option maxHeartbeats 400000 in
theorem walkFnExactHoleName (a h s : Int) (wa : (Lit.int .i64 a).wf = true) (wh : (Lit.int .i64 h).wf = true) (ws : (Lit.int .i64 s).wf = true) (k : Int) (wk : (Lit.int .i64 k).wf = true) (w : World) (htab : Tab w) :
    Calls Tryd.prog 7 #[.agg #[.int .i64 a, .int .i64 h, .int .i64 s], .int .i64 k] w fun e w' => e = .returned (.bool true) ∧ Below w.heap.size w w' := by
  clear wa wh ws wk
  have hi := fun w ht => HoleName_any a h s k w ht
  have hs := fun w ht => specHoleName_any a h s k w ht
  generalize holeT a h s k = t at hi hs
  have HI := Lib.hid hi
  have HS := Lib.hid hs
  have HT := Lib.hid htab
  clear hi hs htab
  go_enter Tryd.func7, Tryd.ntmps7
  have X0 := boxNew w a h s 42
  obtain ⟨b0, b1, b2⟩ := X0
  have hBel := Lib.hid (below1 w (.cells #[.int .i64 a, .int .i64 h, .int .i64 s] 42))
  go_wp2_with fail
  refine (toBoard_any _ _ _ _).mono ?_
  rintro e w1 ⟨rfl, hB1⟩
  replace b0 := cell_keptH b0 hB1
  replace b1 := cell_keptH b1 hB1
  replace b2 := cell_keptH b2 hB1
  replace hBel := Lib.hid (hBel.out.andThen hB1)
  clear hB1
  have ht1 := Lib.hid (tab_kept HT.out hBel.out)
  go_wp2_with fail
  refine (HS.out _ ht1.out).mono ?_
  rintro e w2 ⟨rfl, hB2⟩
  replace b0 := cell_keptH b0 hB2
  replace b1 := cell_keptH b1 hB2
  replace b2 := cell_keptH b2 hB2
  replace hBel := Lib.hid (hBel.out.andThen hB2)
  clear hB2 ht1
  go_wp2_with fail
  refine (toBoard_any _ _ _ _).mono ?_
  rintro e w3 ⟨rfl, hB3⟩
  replace hBel := Lib.hid (hBel.out.andThen hB3)
  clear hB3 b0 b1 b2
  have ht3 := Lib.hid (tab_kept HT.out hBel.out)
  go_wp2_with fail
  refine (HI.out _ ht3.out).mono ?_
  rintro e w4 ⟨rfl, hB4⟩
  replace hBel := Lib.hid (hBel.out.andThen hB4)
  clear hB4
  go_wp2
  go_ret
  exact ⟨rfl, hBel.out⟩
end Go.Proofs.YtnnoahoepljejaaDoor
