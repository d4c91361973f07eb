/-
  The walks of the laws' helpers on slices of strings: markText, eqStringS, markStringS, heldStringS.
-/
import Derived.Test.YtoipnooncnpndaaOwnS
import Derived.Test.YtoipnooncnpndaaBits
import Derived.BigQuiet
import Derived.Deep.QuietTactic
import Derived.Deep.RegionHeld3
import Derived.WalkSpells
import Derived.WalkLawsBesides
import Derived.StillTailTactics
import Derived.Lib.SmallJoins
namespace Go.Proofs.Ytoipnooncnpndaa
open Go.RowKit
set_option linter.unusedVariables false
set_option linter.unusedSimpArgs false

theorem keptS (w w1 : World) {n o : Nat} {v : Value} (h : w.cell? ⟨n, o, none⟩ = some v) (hb : Below w.heap.size w w1) : w1.cell? ⟨n, o, none⟩ = some v :=
  (hb.cell (p := ⟨n, o, none⟩) (World.block_lt_of_cell? w _ h)).trans h

set_option maxHeartbeats 400000 in
theorem markText_any (k : Nat) (h0 : 0 < k) (hk : k ≤ 1152921504606846976) (w : World) :
    Calls Try.prog 59 #[.int .i64 k] w fun e w' => e = .returned (.string (markT k)) ∧ Below w.heap.size w w' := by
  obtain ⟨T, hT⟩ : ∃ T, digT k ⟨#[]⟩ = T := ⟨_, rfl⟩
  have HT := Lib.hid hT
  have hm : markT k = ⟨#[109]⟩ ++ T := by unfold markT; rw [hT]
  rw [hm]
  clear hT hm
  have h00 : ¬ (k : Int) ≤ 0 := by omega
  have h01 : (k = 0) = False := by simp; omega
  have h02 : decide (k = 0) = false := by simp; omega
  go_enter Try.func59, Try.ntmps59
  go_wp2_with fail
  go_loopw [0, 3] (fun a b wr => ∃ (j : Nat) (out : ByteArray), a = .int .i64 j ∧ b = .string out ∧ out.size + j ≤ k ∧ digT j out = T ∧ Below w.heap.size w wr) (fun a _ _ => (intOf a).toNat)
  case atStart => exact ⟨k, ⟨#[]⟩, rfl, rfl, by simp [ByteArray.size], HT.out, Below.refl _ _⟩
  case round =>
    obtain ⟨j, out, rfl, rfl, hj, hd, hB⟩ := hrel
    by_cases hp : 0 < j
    · have hp1 : (0 : Int) < (j : Int) := by omega
      have hd2 := Lib.hid ((digT_pos hp out).symm.trans hd)
      obtain ⟨r, hr, hr10⟩ : ∃ r : Nat, (j : Int) % 10 = r ∧ j % 10 = r := ⟨j % 10, by omega, rfl⟩
      have hrt : ((j : Nat) : Int).tmod 10 = (r : Int) := by rw [Int.tmod_eq_emod_of_nonneg (by omega)]; exact hr
      obtain ⟨q, hq, hq10⟩ : ∃ q : Nat, (j : Int) / 10 = q ∧ j / 10 = q := ⟨j / 10, by omega, rfl⟩
      have hqt : ((j : Nat) : Int).tdiv 10 = (q : Int) := by rw [Int.tdiv_eq_ediv_of_nonneg (by omega)]; exact hq
      have hr9 : r < 10 := by omega
      have hqj : q < j := by omega
      rw [hr10, hq10] at hd2
      have hc8 : IntKind.u8.wrap (48 + (r : Int)) = 48 + (r : Int) := by unfold IntKind.wrap; simp [IntKind.bits, IntKind.signed]; omega
      have hcv := RowU.str (P := Try.prog) (u8_one wr wr.heap.size (Nat.le_refl _) (48 + (r : Int)) wr.heap.size rfl) 31 9 Try.underlying31 Try.underlying5 Try.underlying9
      have hB2 := Lib.hid (hB.more (.cells #[.int .u8 (48 + (r : Int))] 5))
      have hs0 : (strOfNums [48 + (r : Int)]).size = 1 := strOfNums_size _
      have hs3 := Lib.hid (ByteArray.size_append (a := strOfNums [48 + (r : Int)]) (b := out))
      have hs1 : ¬ 9223372036854775807 < (strOfNums [48 + (r : Int)]).size + out.size := by rw [hs0]; omega
      have hs2 : ¬ 9223372036854775807 < 1 + out.size := by omega
      clear hd hB hr10 hq10
      go_wp2
      go_roundw
      case rel => exact ⟨q, _, rfl, rfl, by rw [hs3.out, hs0]; omega, hd2.out, hB2.out⟩
      case measure => simp [intOf]; omega
    · have hp1 : ¬ (0 : Int) < (j : Int) := by omega
      have hj0 : j = 0 := by omega
      rw [hj0, digT_zero] at hd
      have hs1 : ¬ 9223372036854775807 < (⟨#[109]⟩ : ByteArray).size + out.size := by have : (⟨#[109]⟩ : ByteArray).size = 1 := rfl; omega
      have hs2 : ¬ 9223372036854775807 < 1 + out.size := by omega
      have HD := Lib.hid hd
      clear hd
      go_wp2
      go_ret
      exact ⟨by rw [← HD.out]; rfl, hB⟩

theorem eqStringS_nil (a b : Option Addr) (c d : Nat) (w : World) :
    Calls Try.prog 12 #[.slice a 0 c, .slice b 0 d] w fun e w' => e = .returned (.bool true) ∧ Below w.heap.size w w' := by
  go_enter Try.func12, Try.ntmps12
  go_wp2_with fail
  refine wp_loop_rounds 1 ?_
  rw [rounds_succ]
  go_wp2
  go_ret
  exact ⟨rfl, Below.refl _ _⟩

set_option maxHeartbeats 400000 in
theorem eqStringS_pos (g g' cap cap' n : Nat) (f : Nat → ByteArray) (w : World) (hn : n ≤ 9223372036854775807) (h1 : ∀ j, j < n → w.cell? ⟨g, j, none⟩ = some (.string (f j))) (h2 : ∀ j, j < n → w.cell? ⟨g', j, none⟩ = some (.string (f j))) :
    Calls Try.prog 12 #[.slice (some ⟨g, 0, none⟩) n cap, .slice (some ⟨g', 0, none⟩) n cap'] w fun e w' => e = .returned (.bool true) ∧ Below w.heap.size w w' := by
  have H1 := Lib.hid h1
  have H2 := Lib.hid h2
  clear h1 h2
  go_enter Try.func12, Try.ntmps12
  go_wp2_with fail
  go_loopw [5] (fun i wr => ∃ k m : Nat, k ≤ n ∧ i = .int .i64 k ∧ wr = w.drewN m) (fun i _ => n - (intOf i).toNat)
  case atStart => exact ⟨0, 0, by omega, rfl, rfl⟩
  case round =>
    obtain ⟨k, m, hk, rfl, rfl⟩ := hrel
    by_cases hlt : k < n
    · have c1 := H1.out k hlt
      have c2 := H2.out k hlt
      go_wp2
      go_quiet (fail)
      go_wp2
      go_roundw
      case rel => exact ⟨k + 1, _, by omega, by go_num, rfl⟩
      case measure => simp [intOf]; omega
    · go_wp2
      go_ret
      exact ⟨rfl, Joins.below_draws _ _ _⟩

theorem eqStringS_same (xs : List ByteArray) (a b : Value) (A B : Nat) (w : World) (h1 : RowS w A a xs) (h2 : RowS w B b xs) :
    Calls Try.prog 12 #[a, b] w fun e w' => e = .returned (.bool true) ∧ Below w.heap.size w w' := by
  rcases h1.forms with ⟨rfl, p, c, rfl⟩ | ⟨hx, g, c, rfl, _, _, hl⟩
  · rcases h2.forms with ⟨_, q, d, rfl⟩ | ⟨hx, _⟩
    · exact eqStringS_nil p q c d w
    · simp at hx
  · rcases h2.forms with ⟨rfl, _⟩ | ⟨_, g', d, rfl, _⟩
    · simp at hx
    · exact eqStringS_pos g g' c d xs.length (fun j => xs[j]?.getD ByteArray.empty) w hl (fun j hj => h1.at j hj) (fun j hj => h2.at j hj)

theorem markStringS_nil (a : Option Addr) (c K : Nat) (w : World) :
    Calls Try.prog 13 #[.slice a 0 c, .int .i64 K] w fun e w' => e = .returned (.int .i64 K) ∧ w' = w := by
  go_enter Try.func13, Try.ntmps13
  go_wp2_with fail
  refine wp_loop_rounds 1 ?_
  rw [rounds_succ]
  go_wp2
  go_ret
  exact ⟨rfl, rfl⟩

set_option maxHeartbeats 400000 in
theorem markStringS_pos (g cap B n : Nat) (xs : List ByteArray) (hlen : xs.length = n) (w : World) (hn : n ≤ 1048576) (h : RowS w B (.slice (some ⟨g, 0, none⟩) n cap) xs) :
    Calls Try.prog 13 #[.slice (some ⟨g, 0, none⟩) n cap, .int .i64 1] w fun e w' => e = .returned (.int .i64 (1 + (n : Int))) ∧ RowS w' B (.slice (some ⟨g, 0, none⟩) n cap) (marksT 1 n) ∧ w.grownBy w' (some g) := by
  have HL := Lib.hid hlen
  clear hlen
  have R0 : RowS w B (.slice (some ⟨g, 0, none⟩) n cap) (markedT 1 0 xs) := by rw [markedT_zero]; exact h
  go_enter Try.func13, Try.ntmps13
  go_wp2_with fail
  go_loopw [1, 5] (fun q i wr => ∃ k : Nat, k ≤ n ∧ i = .int .i64 k ∧ q = .int .i64 (1 + k : Nat) ∧ RowS wr B (.slice (some ⟨g, 0, none⟩) n cap) (markedT 1 k xs) ∧ w.grownBy wr (some g)) (fun _ i _ => n - (intOf i).toNat)
  case atStart => exact ⟨0, by omega, rfl, rfl, R0, World.grownBy.refl _ _⟩
  case round =>
    obtain ⟨k, hk, rfl, rfl, hR, hG⟩ := hrel
    by_cases hlt : k < n
    · have hlt2 : (k : Int) < (n : Int) := by omega
      go_wp2_with fail
      refine (markText_any (1 + k) (by omega) (by omega) _).mono ?_
      rintro e w1 ⟨rfl, hB1⟩
      have hR1 := hR.kept hB1
      have hml := markedT_len 1 k xs (by rw [HL.out]; omega)
      rw [HL.out] at hml
      have hR2 : RowS w1 B (.slice (some ⟨g, 0, none⟩) (markedT 1 k xs).length cap) (markedT 1 k xs) := by rw [hml]; exact hR1
      have c0 := hR2.at k (by rw [hml]; exact hlt)
      have f0 := hR2.free k
      obtain ⟨u, hu⟩ : ∃ u, w1.cell? ⟨g, k, none⟩ = some (.string u) := ⟨_, c0⟩
      have S := RowS.set hR1 hml k (markT (1 + k))
      rw [markedT_step 1 k xs (by rw [HL.out]; exact hlt)] at S
      have hg3 := Lib.hid (World.grownBy.trans (World.grownBy.trans hG ⟨hB1.os, hB1.tape, hB1.output, hB1.size, fun j hj _ => hB1.block j hj⟩) S.2)
      have hr3 := Lib.hid S.1
      clear hR1 hR2 hml S hR hG c0 hB1
      go_wp2
      go_roundw
      case rel => exact ⟨k + 1, by omega, by go_num, by go_num, hr3.out, hg3.out⟩
      case measure => simp [intOf]; omega
    · have hlt2 : ¬ (k : Int) < (n : Int) := by omega
      have hkn : k = n := by omega
      go_wp2
      go_ret
      rw [hkn, ← HL.out, markedT_all, HL.out] at hR
      exact ⟨rfl, hR, hG⟩

theorem heldStringS_nil (a : Option Addr) (c K : Nat) (w : World) :
    Calls Try.prog 14 #[.slice a 0 c, .int .i64 K] w fun e w' => e = .returned (.int .i64 K) ∧ w' = w := by
  go_enter Try.func14, Try.ntmps14
  go_wp2_with fail
  refine wp_loop_rounds 1 ?_
  rw [rounds_succ]
  go_wp2
  go_ret
  exact ⟨rfl, rfl⟩

theorem heldK {w w' w1 : World} {g k : Nat} {v : Value} (h : w'.cell? ⟨g, k, none⟩ = some v ∧ Below w.heap.size w w') (hb : Below w'.heap.size w' w1) : w1.cell? ⟨g, k, none⟩ = some v ∧ Below w.heap.size w w1 :=
  ⟨keptS _ _ h.1 hb, h.2.andThen hb⟩

set_option maxHeartbeats 400000 in
theorem heldStringS_pos (g cap n : Nat) (w : World) (hn : n ≤ 1048576) (h1 : ∀ j, j < n → w.cell? ⟨g, j, none⟩ = some (.string (markT (1 + j)))) :
    Calls Try.prog 14 #[.slice (some ⟨g, 0, none⟩) n cap, .int .i64 1] w fun e w' => e = .returned (.int .i64 (1 + (n : Int))) ∧ Below w.heap.size w w' := by
  have H1 := Lib.hid h1
  clear h1
  go_enter Try.func14, Try.ntmps14
  go_wp2_with fail
  go_loopw [1, 5] (fun q i wr => ∃ k : Nat, k ≤ n ∧ i = .int .i64 k ∧ q = .int .i64 (1 + k : Nat) ∧ Below w.heap.size w wr) (fun _ i _ => n - (intOf i).toNat)
  case atStart => exact ⟨0, by omega, rfl, rfl, Below.refl _ _⟩
  case round =>
    obtain ⟨k, hk, rfl, rfl, hB⟩ := hrel
    by_cases hlt : k < n
    · have hlt2 : (k : Int) < (n : Int) := by omega
      have hI0 : (0 : Int) ≤ (k : Int) := by omega
      have c0 := keptS _ _ (H1.out k hlt) hB
      go_wp2_with fail
      go_region_held3 (fun w' : World => w'.cell? ⟨g, k, none⟩ = some (.string (markT (1 + k))) ∧ Below w.heap.size w w')
        (first | assumption | exact ⟨c0, hB.drew⟩ | exact heldK (by assumption) hB1)
        (first | (go_at_call 59; refine (markText_any (1 + k) (by omega) (by omega) _).mono ?_; rintro e w1 ⟨rfl, hB1⟩))
      clear c0 hB
      rename_i hX
      obtain ⟨c0, hB⟩ := hX
      have hb := Lib.hid hB
      clear hB
      go_wp2
      go_roundw
      case rel => exact ⟨k + 1, by omega, by go_num, by go_num, hb.out⟩
      case measure => simp [intOf]; omega
    · have hlt2 : ¬ (k : Int) < (n : Int) := by omega
      have hkn : k = n := by omega
      go_wp2
      go_ret
      exact ⟨rfl, hB⟩

theorem markS1 (v : Value) (B : Nat) (xs : List ByteArray) (w : World) (hn : xs.length ≤ 1048576) (h : RowS w B v xs) :
    Calls Try.prog 13 #[v, .int .i64 1] w fun e w' => e = .returned (.int .i64 (1 + (xs.length : Int))) ∧ RowS w' B v (marksT 1 xs.length) ∧ w.grownBy w' v.ownBlock := by
  rcases h.forms with ⟨rfl, p, c, rfl⟩ | ⟨hx, g, c, rfl, _⟩
  · refine (markStringS_nil p c 1 w).mono ?_
    rintro e w' ⟨rfl, hw⟩
    subst hw
    exact ⟨by simp, h, World.grownBy.refl _ _⟩
  · exact markStringS_pos g c B xs.length xs rfl w hn h

theorem heldS1 (v : Value) (B n : Nat) (w : World) (hn : n ≤ 1048576) (h : RowS w B v (marksT 1 n)) :
    Calls Try.prog 14 #[v, .int .i64 1] w fun e w' => e = .returned (.int .i64 (1 + (n : Int))) ∧ Below w.heap.size w w' := by
  have hl := marksT_len 1 n
  rcases h.forms with ⟨h0, p, c, rfl⟩ | ⟨hx, g, c, rfl, _⟩
  · have : n = 0 := by rw [h0] at hl; simpa using hl.symm
    subst this
    refine (heldStringS_nil p c 1 w).mono ?_
    rintro e w' ⟨rfl, hw⟩
    subst hw
    exact ⟨by simp, Below.refl _ _⟩
  · have hat := fun j (hj : j < n) => RowS.at h j (by rw [hl]; exact hj)
    rw [hl]
    exact heldStringS_pos g c n w hn (fun j hj => by rw [hat j hj, marksT_get 1 n j hj])
end Go.Proofs.Ytoipnooncnpndaa
