/-
  The draw of a line of fields.
-/
import Derived.Test.YtnnoahoepljejaaDoorTextD
import Derived.Test.YtnnoahoepljejaaDoorOwnS
import Derived.Deep.Cut
import Derived.Deep.CutRange
namespace Go.Proofs.YtnnoahoepljejaaDoor
open Go.RowKit
set_option linter.unusedVariables false
set_option linter.unusedSimpArgs false

theorem strOne_size (x : Int) : (strOfNums [x]).size = 1 := by simp [strOfNums, ByteArray.size]

theorem l01Pick_any (n : Nat) (ad : Option Addr) (len cap : Nat) (g L c2 : Nat) (hL : 0 < L) (hL2 : L ≤ 1048576) (hgn : g ≠ n) (w : World) (hc : Cur n ad len cap w) (hat : ∀ j, j < L → ∃ u : ByteArray, u.size ≤ 9 ∧ w.cell? ⟨g, j, none⟩ = some (.string u)) :
    Calls Tryd.prog 51 #[.pointer (some ⟨n, 0, none⟩), .slice (some ⟨g, 0, none⟩) L c2] w fun e w' => ∃ u : ByteArray, u.size ≤ 9 ∧ e = .returned (.string u) ∧ Drew n ad len cap w w' := by
  have HAT := Lib.hid hat
  clear hat
  go_enter Tryd.func51, Tryd.ntmps51
  go_wp2_with fail
  refine (l01Below_any n ad len cap L (by omega) _ hc).mono ?_
  rintro e w1 ⟨r, hr0, hr1, _, _, rfl, hD⟩
  obtain ⟨k, rfl⟩ := Int.eq_ofNat_of_zero_le hr0
  have hk : (k : Int) < (L : Int) := hr1 (by omega)
  obtain ⟨u, hu9, hu⟩ := HAT.out k (by omega)
  have hu1 := hD.gr.cell hu (by simpa using hgn)
  have HD := Lib.hid hD
  clear hD hu hr1
  go_wp2
  go_ret
  exact ⟨u, hu9, rfl, HD.out⟩

theorem row_six (w : World) (x0 x1 x2 x3 x4 x5 : ByteArray) (t : TypeId) (h : x0.size ≤ 9 ∧ x1.size ≤ 9 ∧ x2.size ≤ 9 ∧ x3.size ≤ 9 ∧ x4.size ≤ 9 ∧ x5.size ≤ 9) : ∀ j, j < 6 → ∃ u : ByteArray, u.size ≤ 9 ∧ (w.alloc (.cells #[.string x0, .string x1, .string x2, .string x3, .string x4, .string x5] t)).cell? ⟨w.heap.size, j, none⟩ = some (.string u) := by
  intro j hj
  obtain ⟨h0, h1, h2, h3, h4, h5⟩ := h
  have : j = 0 ∨ j = 1 ∨ j = 2 ∨ j = 3 ∨ j = 4 ∨ j = 5 := by omega
  rcases this with rfl | rfl | rfl | rfl | rfl | rfl
  · exact ⟨_, h0, by rw [World.cell?_alloc_at _ _ _ _ rfl]; rfl⟩
  · exact ⟨_, h1, by rw [World.cell?_alloc_at _ _ _ _ rfl]; rfl⟩
  · exact ⟨_, h2, by rw [World.cell?_alloc_at _ _ _ _ rfl]; rfl⟩
  · exact ⟨_, h3, by rw [World.cell?_alloc_at _ _ _ _ rfl]; rfl⟩
  · exact ⟨_, h4, by rw [World.cell?_alloc_at _ _ _ _ rfl]; rfl⟩
  · exact ⟨_, h5, by rw [World.cell?_alloc_at _ _ _ _ rfl]; rfl⟩

/-- The draw, once the number of fields is drawn. -/
def LineRet (w : World) (e : Ending) (w' : World) : Prop := ∃ s : ByteArray, s.size ≤ 1000000 ∧ e = .returned (.string s) ∧ Below w.heap.size w w'

/-- A slot that holds a text of at most m bytes, with the cursor. -/
def Txt (n : Nat) (ad : Option Addr) (len cap : Nat) (w wr : World) (m : Nat) (v : Value) : Prop := ∃ t : ByteArray, v = .string t ∧ t.size ≤ m ∧ Cur n ad len cap wr ∧ Below w.heap.size w wr

set_option maxHeartbeats 1600000 in
set_option maxRecDepth 100000 in
theorem DrawSplitFields_any (ad : Option Addr) (len cap : Nat) (hlen : len ≤ 1048576) (w : World) (h : IsCode w ad len) :
    Calls Tryd.prog 31 #[.slice ad len cap] w (LineRet w) := by
  go_enter Tryd.func31, Tryd.ntmps31
  go_wp2_with fail
  refine (l01New_any ad len cap hlen _ h).mono ?_
  rintro e w1 hr
  obtain ⟨n, rfl, hn, hc1, hB1⟩ := hr
  clear h
  go_wp2_with fail
  refine (l01Below_any n ad len cap 9 (by decide) _ hc1).mono ?_
  rintro e w2 ⟨r, hr0, hr1, _, _, rfl, hD2⟩
  obtain ⟨N0, rfl⟩ := Int.eq_ofNat_of_zero_le hr0
  have hN0 : (N0 : Int) < 9 := hr1 (by decide)
  have hB2 := hB1.trans (hD2.below hB1.size hn)
  have hc2 := hD2.cur
  clear hD2 hB1 hc1 hr1 hr0
  go_wp2_with fail
  refine (l01Once_any n ad len cap 15 (by decide) _ hc2).mono ?_
  rintro e w3 ⟨c, rfl, hD3⟩
  have hB3 := hB2.trans (hD3.below hB2.size hn)
  have hc3 := hD3.cur
  clear hD3 hB2 hc2
  go_upto_if 13 with fail
  go_cut [4] from 8 (fun a wr => ∃ N : Nat, N ≤ 30 ∧ a = .int .i64 N ∧ Cur n ad len cap wr ∧ Below w.heap.size w wr)
  case first =>
    cases c
    · go_wp2
      go_meet
      case rel => exact ⟨N0, by omega, rfl, hc3, hB3⟩
    · go_wp2_with fail
      refine (l01Below_any n ad len cap 2 (by decide) _ hc3).mono ?_
      rintro e w4 ⟨r, hr0, hr1, _, _, rfl, hD4⟩
      have hr2 : r < 2 := hr1 (by decide)
      have HB := Lib.hid (hB3.trans (hD4.below hB3.size hn))
      have HC := Lib.hid hD4.cur
      obtain ⟨N1, hN1⟩ : ∃ N : Nat, (24 : Int) + r = N := ⟨(24 + r).toNat, by omega⟩
      have hNw : IntKind.i64.wrap (N1 : Int) = N1 := Bit.i64_wrap _ (by omega) (by omega)
      clear hD4 hB3 hc3 hr1
      go_wp2
      go_meet
      case rel => exact ⟨N1, by omega, rfl, HC.out, HB.out⟩
  case rest =>
  obtain ⟨N, hN, rfl, hc, hB⟩ := hcut
  clear hB3 hc3 hN0
  go_wp2_with fail
  go_loopw [5, 6] (fun a j wr => ∃ (k : Nat), k ≤ N ∧ j = .int .i64 k ∧ Txt n ad len cap w wr (8 * k) a) (fun _ j _ => N - (intOf j).toNat)
  case atStart => exact ⟨0, by omega, rfl, ⟨#[]⟩, rfl, by simp [ByteArray.size], hc, hB⟩
  case round =>
    obtain ⟨k, hk, rfl, t, rfl, ht, hc, hB⟩ := hrel
    by_cases hlt : k < N
    · have hI1 : (k : Int) < (N : Int) := by omega
      go_upto_region 9 with fail
      go_cut [27] from 22 to 50 (fun a wr => (∃ b : Bool, a = .bool b) ∧ Cur n ad len cap wr ∧ Below w.heap.size w wr)
      case first =>
        by_cases hk0 : 0 < k
        · have hk1 : (0 : Int) < (k : Int) := by omega
          go_wp2
          go_meet
          case rel => exact ⟨⟨_, rfl⟩, hc, hB⟩
        · have hk1 : ¬ (0 : Int) < (k : Int) := by omega
          go_wp2_with fail
          refine (l01Once_any n ad len cap 5 (by decide) _ hc).mono ?_
          rintro e w4 ⟨c2, rfl, hD4⟩
          have HB := Lib.hid (hB.trans (hD4.below hB.size hn))
          have HC := Lib.hid hD4.cur
          clear hD4 hB hc
          go_wp2
          go_meet
          case rel => exact ⟨⟨_, rfl⟩, HC.out, HB.out⟩
      case rest =>
      obtain ⟨⟨b, rfl⟩, hc, hB⟩ := hcut
      go_upto_if 27 with fail
      go_cut [5] from 22 to 50 (fun a wr => Txt n ad len cap w wr (8 * k + 3) a)
      case first =>
        cases b
        · go_wp2
          go_meet
          case rel => exact ⟨t, rfl, by omega, hc, hB⟩
        · go_wp2_with fail
          refine (l01Below_any n ad len cap 2 (by decide) _ hc).mono ?_
          rintro e w4 ⟨r, hr0, hr1, -, -, rfl, hD4⟩
          have hr2 : r < 2 := hr1 (by decide)
          have hB4 := hB.trans (hD4.below hB.size hn)
          have hc4 := hD4.cur
          clear hD4 hB hc hr1
          go_wp2_with fail
          refine (l01Below_any n ad len cap 3 (by decide) _ hc4).mono ?_
          rintro e w5 ⟨q, hq0, hq1, -, -, rfl, hD5⟩
          have hq3 : q < 3 := hq1 (by decide)
          have hB5 := hB4.trans (hD5.below hB4.size hn)
          have HC5 := Lib.hid hD5.cur
          clear hD5 hB4 hc4 hq1
          obtain ⟨P, hP, hP2⟩ : ∃ P : Nat, r * q = P ∧ P ≤ 2 := by
            have : r = 0 ∨ r = 1 := by omega
            rcases this with rfl | rfl
            · exact ⟨0, by simp, by omega⟩
            · exact ⟨q.toNat, by omega, by omega⟩
          have hPw : IntKind.i64.wrap (P : Int) = P := Bit.i64_wrap _ (by omega) (by omega)
          obtain ⟨M, hM⟩ : ∃ M : Nat, 1 + (P : Int) = M := ⟨1 + P, by omega⟩
          have hMw : IntKind.i64.wrap (M : Int) = M := Bit.i64_wrap _ (by omega) (by omega)
          go_wp2_with fail
          refine (l01Long_any M 32 (by decide) (by decide) (by omega) _).mono ?_
          rintro e w6 ⟨rfl, hB6⟩
          have hsz : (strOfNums (List.replicate M 32)).size = M := by rw [strNum_size, List.length_replicate]
          obtain ⟨L, hL⟩ : ∃ L, strOfNums (List.replicate M 32) = L := ⟨_, rfl⟩
          rw [hL] at hsz
          have HB := Lib.hid (hB5.andThen hB6)
          have HC := Lib.hid (HC5.out.kept hB6)
          have hs3 := Lib.hid (ByteArray.size_append (a := t) (b := L))
          have hov : ¬ 9223372036854775807 < t.size + L.size := by omega
          clear hB5 hB6
          go_wp2
          go_meet
          case rel => exact ⟨_, rfl, by rw [hs3.out]; omega, HC.out, HB.out⟩
      case rest =>
      obtain ⟨t, rfl, ht, hc, hB⟩ := hcut
      go_wp2_with fail
      go_loopw [5, 7] (fun a j wr => ∃ (i : Nat), i ≤ 5 ∧ j = .int .i64 i ∧ Txt n ad len cap w wr (8 * k + 3 + i) a) (fun _ j _ => 5 - (intOf j).toNat)
      case atStart => exact ⟨0, by omega, rfl, t, rfl, by omega, hc, hB⟩
      case round =>
        obtain ⟨i, hi, rfl, t, rfl, ht, hc, hB⟩ := hrel
        go_wp2_with fail
        refine (l01Below_any n ad len cap 5 (by decide) _ hc).mono ?_
        rintro e w4 ⟨r, hr0, hr1, -, -, rfl, hD4⟩
        have hr2 : r < 5 := hr1 (by decide)
        have hB4 := hB.trans (hD4.below hB.size hn)
        have hc4 := hD4.cur
        clear hD4 hB hc hr1
        by_cases hle : (i : Int) ≤ r
        · go_wp2_with fail
          refine (l01Below_any n ad len cap 94 (by decide) _ hc4).mono ?_
          rintro e w5 ⟨q, hq0, hq1, -, -, rfl, hD5⟩
          have hq3 : q < 94 := hq1 (by decide)
          have hB5 := hB4.trans (hD5.below hB4.size hn)
          have hc5 := hD5.cur
          clear hD5 hB4 hc4 hq1
          obtain ⟨M, hM⟩ : ∃ M : Nat, 33 + q = M := ⟨(33 + q).toNat, by omega⟩
          have hMw : IntKind.i64.wrap (M : Int) = M := Bit.i64_wrap _ (by omega) (by omega)
          have hc8 : IntKind.u8.wrap (M : Int) = (M : Int) := by unfold IntKind.wrap; simp [IntKind.bits, IntKind.signed]; omega
          have hcv := RowU.str (P := Tryd.prog) (u8_one w5 w5.heap.size (Nat.le_refl _) (M : Int) w5.heap.size rfl) 22 9 Tryd.underlying22 Tryd.underlying5 Tryd.underlying9
          have hB2 := Lib.hid (hB5.more (.cells #[.int .u8 (M : Int)] 5))
          have hc2 := Lib.hid (hc5.kept (below1 w5 (.cells #[.int .u8 (M : Int)] 5)))
          have hs0 : (strOfNums [(M : Int)]).size = 1 := strOne_size _
          obtain ⟨L, hL⟩ : ∃ L, strOfNums [(M : Int)] = L := ⟨_, rfl⟩
          rw [hL] at hs0 hcv
          have hs3 := Lib.hid (ByteArray.size_append (a := t) (b := L))
          have hov : ¬ 9223372036854775807 < t.size + L.size := by omega
          have hov2 : ¬ 9223372036854775807 < t.size + 1 := by omega
          have hi1 : IntKind.i64.wrap ((i : Int) + 1) = (i : Int) + 1 := Bit.i64_wrap _ (by omega) (by omega)
          clear hB5 hc5
          go_wp2
          go_roundw
          case rel => exact ⟨i + 1, by omega, by go_num, _, rfl, by rw [hs3.out]; omega, hc2.out, hB2.out⟩
          case measure => simp [intOf]; omega
        · go_wp2
          go_roundw
          case rel => exact ⟨k + 1, by omega, by go_num, t, rfl, by omega, hc4, hB4⟩
          case measure => simp [intOf]; omega
    · have hI1 : ¬ (k : Int) < (N : Int) := by omega
      go_wp2_with fail
      refine (l01Below_any n ad len cap 12 (by decide) _ hc).mono ?_
      rintro e w4 ⟨r, hr0, hr1, -, -, rfl, hD4⟩
      have hB4 := hB.trans (hD4.below hB.size hn)
      have hc4 := hD4.cur
      clear hD4 hB hc hr1
      by_cases h0 : r = 0
      · have q0 : (r == 0) = true := by simpa using h0
        have hcr := hc4.kept (below1 w4 (.cells #[.string ⟨#[32]⟩, .string ⟨#[32, 32]⟩, .string ⟨#[9]⟩, .string ⟨#[10]⟩, .string ⟨#[127]⟩, .string ⟨#[233]⟩] 9))
        have hz := hc4.sz
        have hat := row_six w4 ⟨#[32]⟩ ⟨#[32, 32]⟩ ⟨#[9]⟩ ⟨#[10]⟩ ⟨#[127]⟩ ⟨#[233]⟩ 9 (by decide)
        have hBr := hB4.more (.cells #[.string ⟨#[32]⟩, .string ⟨#[32, 32]⟩, .string ⟨#[9]⟩, .string ⟨#[10]⟩, .string ⟨#[127]⟩, .string ⟨#[233]⟩] 9)
        go_wp2_with fail
        refine (l01Pick_any n ad len cap w4.heap.size 6 6 (by decide) (by decide) (by omega) _ hcr hat).mono ?_
        rintro e w5 ⟨L, hL, rfl, hD5⟩
        have HB := Lib.hid (hBr.trans (hD5.below hBr.size hn))
        have hs3 := Lib.hid (ByteArray.size_append (a := t) (b := L))
        have hov : ¬ 9223372036854775807 < t.size + L.size := by omega
        clear hD5 hBr hat hcr hB4 hc4
        go_wp2
        go_ret
        exact ⟨_, by rw [hs3.out]; omega, rfl, HB.out⟩
      · have q0 : (r == 0) = false := by simpa using h0
        by_cases h1 : r = 1
        · have q1 : (r == 1) = true := by simpa using h1
          by_cases h6 : (t.size : Int) < 600
          · go_wp2_with fail
            refine (l01Below_any n ad len cap 2 (by decide) _ hc4).mono ?_
            rintro e w5 ⟨q, hq0, hq1, -, -, rfl, hD5⟩
            have hq3 : q < 2 := hq1 (by decide)
            have hB5 := hB4.trans (hD5.below hB4.size hn)
            clear hD5 hB4 hc4 hq1
            obtain ⟨M0, hM0⟩ : ∃ M0 : Nat, 600 - (t.size : Int) = M0 := ⟨(600 - (t.size : Int)).toNat, by omega⟩
            have hMw0 : IntKind.i64.wrap (M0 : Int) = M0 := Bit.i64_wrap _ (by omega) (by omega)
            obtain ⟨M, hM⟩ : ∃ M : Nat, (M0 : Int) + q = M := ⟨((M0 : Int) + q).toNat, by omega⟩
            have hMw : IntKind.i64.wrap (M : Int) = M := Bit.i64_wrap _ (by omega) (by omega)
            go_wp2_with fail
            refine (l01Long_any M 32 (by decide) (by decide) (by omega) _).mono ?_
            rintro e w6 ⟨rfl, hB6⟩
            have hsz : (strOfNums (List.replicate M 32)).size = M := by rw [strNum_size, List.length_replicate]
            obtain ⟨L, hL⟩ : ∃ L, strOfNums (List.replicate M 32) = L := ⟨_, rfl⟩
            rw [hL] at hsz
            have HB := Lib.hid (hB5.andThen hB6)
            have hs3 := Lib.hid (ByteArray.size_append (a := t) (b := L))
            have hov : ¬ 9223372036854775807 < t.size + L.size := by omega
            clear hB5 hB6
            go_wp2
            go_ret
            exact ⟨_, by rw [hs3.out]; omega, rfl, HB.out⟩
          · exact absurd (show (t.size : Int) < 600 by omega) h6
        · have q1 : (r == 1) = false := by simpa using h1
          go_wp2
          go_ret
          exact ⟨t, by omega, rfl, hB4⟩
end Go.Proofs.YtnnoahoepljejaaDoor
