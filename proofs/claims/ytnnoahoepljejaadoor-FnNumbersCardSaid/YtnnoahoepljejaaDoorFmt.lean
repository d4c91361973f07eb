/-
  The walks of FormatInt (impl and spec).
-/
import Derived.Test.YtnnoahoepljejaaDoorWalkE
import Derived.Test.YtnnoahoepljejaaDoorOwnS
import Derived.Test.YtnnoahoepljejaaDoorShelf
namespace Go.Proofs.YtnnoahoepljejaaDoor
open Go.RowKit
set_option linter.unusedVariables false
set_option linter.unusedSimpArgs false

theorem below_grow (w : World) (k : Nat) (os : Array Obj) : Below w.heap.size w (Sort.grow (w.drewN k) os) := by
  have hb : Below w.heap.size w (w.drewN k) := Joins.below_draws _ _ _
  refine ⟨hb.os, hb.tape, hb.output, ?_, fun j hj => ?_⟩
  · have := hb.size
    show _ ≤ ((w.drewN k).heap ++ os).size
    rw [Array.size_append]; omega
  · show ((w.drewN k).heap ++ os)[j]? = _
    have := hb.size
    rw [Array.getElem?_append_left (by omega)]
    exact hb.block j hj
def itoaB (n : Int) : ByteArray := ⟨(Lib.itoa n).toArray⟩
theorem FormatInt_any (n : Int) (h0 : -9223372036854775808 ≤ n) (h1 : n ≤ 9223372036854775807) (w : World) (htab : Lib.TabIs Tryd.prog w "internal/strconv.uint64pow10" .u64 Lib.pow10Tab) :
    Calls Tryd.prog 24 #[.int .i64 n] w fun e w' => e = .returned (.string (itoaB n)) ∧ Below w.heap.size w w' := by
  go_enter Tryd.func24, Tryd.ntmps24
  go_wp2_with fail
  refine (Tryd.strconv_Itoa n h0 h1 _ htab).mono ?_
  rintro e w1 ⟨rfl, k, os, rfl⟩
  go_wp2
  go_ret
  exact ⟨rfl, below_grow _ _ _⟩

theorem str_one (r : Nat) : strOfNums [48 + (r : Int)] = ⟨#[UInt8.ofNat (48 + r)]⟩ := by
  unfold strOfNums
  simp [show (48 + (r : Int)).toNat = 48 + r from by omega]
theorem ba_append (a b : List UInt8) : (⟨a.toArray⟩ : ByteArray) ++ ⟨b.toArray⟩ = ⟨(a ++ b).toArray⟩ := by
  apply ByteArray.ext
  rw [ByteArray.data_append]
  simp
theorem digT_dec : ∀ (u : Nat), 0 < u → ∀ (out : List UInt8), digT u ⟨out.toArray⟩ = ⟨(Lib.decDigits u ++ out).toArray⟩ := by
  intro u
  induction u using Nat.strongRecOn with
  | _ u ih =>
    intro hu out
    rw [digT_pos hu, str_one]
    rw [show (⟨#[UInt8.ofNat (48 + u % 10)]⟩ : ByteArray) = ⟨[UInt8.ofNat (48 + u % 10)].toArray⟩ from rfl, ba_append]
    by_cases h : u < 10
    · rw [show u / 10 = 0 from by omega, digT_zero, Lib.decDigits, dif_pos h, show u % 10 = u from by omega]
    · have e : Lib.decDigits u = Lib.decDigits (u / 10) ++ [UInt8.ofNat (48 + u % 10)] := by
        rw [Lib.decDigits, dif_neg h]
      rw [ih (u / 10) (by omega) (by omega), e, List.append_assoc]
theorem digT_itoa {n : Int} (h : 0 < n) : digT n.natAbs ⟨#[]⟩ = itoaB n := by
  have := digT_dec n.natAbs (by omega) []
  rw [List.append_nil] at this
  unfold itoaB Lib.itoa
  rw [if_neg (by omega), show n.toNat = n.natAbs from by omega]
  exact this
theorem digT_itoa_neg {n : Int} (h : n < 0) : (⟨#[45]⟩ : ByteArray) ++ digT n.natAbs ⟨#[]⟩ = itoaB n := by
  have := digT_dec n.natAbs (by omega) []
  rw [List.append_nil] at this
  unfold itoaB Lib.itoa
  rw [if_pos h, show digT n.natAbs ⟨#[]⟩ = _ from this, show (⟨#[45]⟩ : ByteArray) = ⟨[(45 : UInt8)].toArray⟩ from rfl, ba_append]
  rfl
theorem hexI_dig (r : Nat) (h : r < 10) : hexI (r : Int) = 48 + (r : Int) := by unfold hexI; rw [if_pos (by omega)]

theorem specFormatInt_zero (w : World) :
    Calls Tryd.prog 25 #[.int .i64 0] w fun e w' => e = .returned (.string (itoaB 0)) ∧ Below w.heap.size w w' := by
  have he : itoaB 0 = ⟨#[48]⟩ := by
    unfold itoaB Lib.itoa
    rw [if_neg (by decide), Lib.decDigits, dif_pos (by decide)]; rfl
  rw [he]
  go_enter Tryd.func25, Tryd.ntmps25
  go_wp2
  go_ret
  exact ⟨rfl, Below.refl _ _⟩

set_option maxHeartbeats 800000 in
theorem specFormatInt_pos (n : Int) (hn : 0 < n) (h0 : -9223372036854775808 ≤ n) (h1 : n ≤ 9223372036854775807) (w : World) :
    Calls Tryd.prog 25 #[.int .i64 n] w fun e w' => e = .returned (.string (itoaB n)) ∧ Below w.heap.size w w' := by
  obtain ⟨T, hT⟩ : ∃ T, digT n.natAbs ⟨#[]⟩ = T := ⟨_, rfl⟩
  have HT := Lib.hid hT
  have hI := Lib.hid (digT_itoa hn)
  have q0 : (n == 0) = false := by simp; omega
  have q1 : ¬ n < 0 := by omega
  have hna : n.natAbs ≤ 9223372036854775808 := by omega
  clear hT
  go_enter Tryd.func25, Tryd.ntmps25
  go_wp2_with fail
  go_loopw [0, 4] (fun a b wr => ∃ (m : Int) (out : ByteArray), a = .int .i64 m ∧ b = .string out ∧ -9223372036854775808 ≤ m ∧ m ≤ 9223372036854775807 ∧ 2 * out.size + m.natAbs ≤ n.natAbs + 1 ∧ (m ≠ 0 → 2 * out.size + m.natAbs ≤ n.natAbs) ∧ digT m.natAbs out = T ∧ Below w.heap.size w wr) (fun a _ _ => (intOf a).natAbs)
  case atStart => exact ⟨n, ⟨#[]⟩, rfl, rfl, h0, h1, by simp [ByteArray.size], fun _ => by simp [ByteArray.size], HT.out, Below.refl _ _⟩
  case round =>
    obtain ⟨m, out, rfl, rfl, hm0, hm1, hs1, hs2, hd, hB⟩ := hrel
    by_cases hz : m = 0
    · have q2 : (m != 0) = false := by simp [hz]
      rw [hz, show (0 : Int).natAbs = 0 from rfl, digT_zero] at hd
      have HD := Lib.hid hd
      have hov : ¬ 9223372036854775807 < (⟨#[45]⟩ : ByteArray).size + out.size := by have : (⟨#[45]⟩ : ByteArray).size = 1 := rfl; omega
      have hov2 : ¬ 9223372036854775807 < 1 + out.size := by omega
      clear hd hs2
      go_wp2
      go_ret
      exact ⟨by rw [← hI.out, HT.out, ← HD.out]; rfl, hB⟩
    have q2 : (m != 0) = true := by simpa using hz
    have hs3 := hs2 hz
    obtain ⟨d, hdd⟩ : ∃ d, m.tmod 10 = d := ⟨_, rfl⟩
    obtain ⟨m2, hm2⟩ : ∃ m2, m.tdiv 10 = m2 := ⟨_, rfl⟩
    have hda : d.natAbs = m.natAbs % 10 := by rw [← hdd, Int.natAbs_tmod]; rfl
    have hqa : m2.natAbs = m.natAbs / 10 := by rw [← hm2, Int.natAbs_tdiv]; rfl
    have hpos : 0 < m.natAbs := by omega
    have hd2 := Lib.hid ((digT_pos hpos out).symm.trans hd)
    obtain ⟨r, hr⟩ : ∃ r, m.natAbs % 10 = r := ⟨_, rfl⟩
    rw [hr, ← hqa] at hd2
    rw [hr] at hda
    have hr10 : r < 10 := by omega
    have hfx := hexI_dig r hr10
    have hw1 : IntKind.i64.wrap d = d := Bit.i64_wrap _ (by omega) (by omega)
    have hw2 : IntKind.i64.wrap m2 = m2 := Bit.i64_wrap _ (by omega) (by omega)
    have hcv := fun (wr : World) => RowU.str (P := Tryd.prog) (u8_one wr wr.heap.size (Nat.le_refl _) (48 + (r : Int)) wr.heap.size rfl) 22 9 Tryd.underlying22 Tryd.underlying5 Tryd.underlying9
    have hs0 : (strOfNums [48 + (r : Int)]).size = 1 := strOfNums_size _
    have hsz := Lib.hid (ByteArray.size_append (a := strOfNums [48 + (r : Int)]) (b := out))
    have hov : ¬ 9223372036854775807 < (strOfNums [48 + (r : Int)]).size + out.size := by rw [hs0]; omega
    have hov2 : ¬ 9223372036854775807 < 1 + out.size := by omega
    have HQA := Lib.hid hqa
    clear hd hs2 hr hqa
    have hfin : 2 * (1 + out.size) + m2.natAbs ≤ n.natAbs + 1 ∧ (m2 ≠ 0 → 2 * (1 + out.size) + m2.natAbs ≤ n.natAbs) ∧ m2.natAbs < m.natAbs := by
      have := HQA.out
      refine ⟨by omega, fun h => by omega, by omega⟩
    have hb2 : -9223372036854775808 ≤ m2 ∧ m2 ≤ 9223372036854775807 := by omega
    have HF := Lib.hid hfin
    have HB2 := Lib.hid hb2
    clear hfin hb2
    by_cases hneg : d < 0
    · have hdr : -d = (r : Int) := by omega
      go_wp2_with (go_at_call 47; refine (l01Figure_any _ (by omega) (by omega) _).mono ?_; rintro e wx ⟨rfl, hwx⟩; subst wx)
      go_roundw
      case rel => exact ⟨m2, _, rfl, rfl, HB2.out.1, HB2.out.2, by rw [hsz.out, hs0]; exact HF.out.1, fun h => by rw [hsz.out, hs0]; exact HF.out.2.1 h, hd2.out, hB.more _⟩
      case measure => simp [intOf]; exact HF.out.2.2
    · obtain rfl : d = (r : Int) := by omega
      go_wp2_with (go_at_call 47; refine (l01Figure_any _ (by omega) (by omega) _).mono ?_; rintro e wx ⟨rfl, hwx⟩; subst wx)
      go_roundw
      case rel => exact ⟨m2, _, rfl, rfl, HB2.out.1, HB2.out.2, by rw [hsz.out, hs0]; exact HF.out.1, fun h => by rw [hsz.out, hs0]; exact HF.out.2.1 h, hd2.out, hB.more _⟩
      case measure => simp [intOf]; exact HF.out.2.2

set_option maxHeartbeats 800000 in
theorem specFormatInt_neg (n : Int) (hn : n < 0) (h0 : -9223372036854775808 ≤ n) (h1 : n ≤ 9223372036854775807) (w : World) :
    Calls Tryd.prog 25 #[.int .i64 n] w fun e w' => e = .returned (.string (itoaB n)) ∧ Below w.heap.size w w' := by
  obtain ⟨T, hT⟩ : ∃ T, digT n.natAbs ⟨#[]⟩ = T := ⟨_, rfl⟩
  have HT := Lib.hid hT
  have hI := Lib.hid (digT_itoa_neg hn)
  have q0 : (n == 0) = false := by simp; omega
  have q1 : n < 0 := by omega
  have hna : n.natAbs ≤ 9223372036854775808 := by omega
  clear hT
  go_enter Tryd.func25, Tryd.ntmps25
  go_wp2_with fail
  go_loopw [0, 4] (fun a b wr => ∃ (m : Int) (out : ByteArray), a = .int .i64 m ∧ b = .string out ∧ -9223372036854775808 ≤ m ∧ m ≤ 9223372036854775807 ∧ 2 * out.size + m.natAbs ≤ n.natAbs + 1 ∧ (m ≠ 0 → 2 * out.size + m.natAbs ≤ n.natAbs) ∧ digT m.natAbs out = T ∧ Below w.heap.size w wr) (fun a _ _ => (intOf a).natAbs)
  case atStart => exact ⟨n, ⟨#[]⟩, rfl, rfl, h0, h1, by simp [ByteArray.size], fun _ => by simp [ByteArray.size], HT.out, Below.refl _ _⟩
  case round =>
    obtain ⟨m, out, rfl, rfl, hm0, hm1, hs1, hs2, hd, hB⟩ := hrel
    by_cases hz : m = 0
    · have q2 : (m != 0) = false := by simp [hz]
      rw [hz, show (0 : Int).natAbs = 0 from rfl, digT_zero] at hd
      have HD := Lib.hid hd
      have hov : ¬ 9223372036854775807 < (⟨#[45]⟩ : ByteArray).size + out.size := by have : (⟨#[45]⟩ : ByteArray).size = 1 := rfl; omega
      have hov2 : ¬ 9223372036854775807 < 1 + out.size := by omega
      clear hd hs2
      go_wp2
      go_ret
      exact ⟨by rw [← hI.out, HT.out, ← HD.out]; rfl, hB⟩
    have q2 : (m != 0) = true := by simpa using hz
    have hs3 := hs2 hz
    obtain ⟨d, hdd⟩ : ∃ d, m.tmod 10 = d := ⟨_, rfl⟩
    obtain ⟨m2, hm2⟩ : ∃ m2, m.tdiv 10 = m2 := ⟨_, rfl⟩
    have hda : d.natAbs = m.natAbs % 10 := by rw [← hdd, Int.natAbs_tmod]; rfl
    have hqa : m2.natAbs = m.natAbs / 10 := by rw [← hm2, Int.natAbs_tdiv]; rfl
    have hpos : 0 < m.natAbs := by omega
    have hd2 := Lib.hid ((digT_pos hpos out).symm.trans hd)
    obtain ⟨r, hr⟩ : ∃ r, m.natAbs % 10 = r := ⟨_, rfl⟩
    rw [hr, ← hqa] at hd2
    rw [hr] at hda
    have hr10 : r < 10 := by omega
    have hfx := hexI_dig r hr10
    have hw1 : IntKind.i64.wrap d = d := Bit.i64_wrap _ (by omega) (by omega)
    have hw2 : IntKind.i64.wrap m2 = m2 := Bit.i64_wrap _ (by omega) (by omega)
    have hcv := fun (wr : World) => RowU.str (P := Tryd.prog) (u8_one wr wr.heap.size (Nat.le_refl _) (48 + (r : Int)) wr.heap.size rfl) 22 9 Tryd.underlying22 Tryd.underlying5 Tryd.underlying9
    have hs0 : (strOfNums [48 + (r : Int)]).size = 1 := strOfNums_size _
    have hsz := Lib.hid (ByteArray.size_append (a := strOfNums [48 + (r : Int)]) (b := out))
    have hov : ¬ 9223372036854775807 < (strOfNums [48 + (r : Int)]).size + out.size := by rw [hs0]; omega
    have hov2 : ¬ 9223372036854775807 < 1 + out.size := by omega
    have HQA := Lib.hid hqa
    clear hd hs2 hr hqa
    have hfin : 2 * (1 + out.size) + m2.natAbs ≤ n.natAbs + 1 ∧ (m2 ≠ 0 → 2 * (1 + out.size) + m2.natAbs ≤ n.natAbs) ∧ m2.natAbs < m.natAbs := by
      have := HQA.out
      refine ⟨by omega, fun h => by omega, by omega⟩
    have hb2 : -9223372036854775808 ≤ m2 ∧ m2 ≤ 9223372036854775807 := by omega
    have HF := Lib.hid hfin
    have HB2 := Lib.hid hb2
    clear hfin hb2
    by_cases hneg : d < 0
    · have hdr : -d = (r : Int) := by omega
      go_wp2_with (go_at_call 47; refine (l01Figure_any _ (by omega) (by omega) _).mono ?_; rintro e wx ⟨rfl, hwx⟩; subst wx)
      go_roundw
      case rel => exact ⟨m2, _, rfl, rfl, HB2.out.1, HB2.out.2, by rw [hsz.out, hs0]; exact HF.out.1, fun h => by rw [hsz.out, hs0]; exact HF.out.2.1 h, hd2.out, hB.more _⟩
      case measure => simp [intOf]; exact HF.out.2.2
    · obtain rfl : d = (r : Int) := by omega
      go_wp2_with (go_at_call 47; refine (l01Figure_any _ (by omega) (by omega) _).mono ?_; rintro e wx ⟨rfl, hwx⟩; subst wx)
      go_roundw
      case rel => exact ⟨m2, _, rfl, rfl, HB2.out.1, HB2.out.2, by rw [hsz.out, hs0]; exact HF.out.1, fun h => by rw [hsz.out, hs0]; exact HF.out.2.1 h, hd2.out, hB.more _⟩
      case measure => simp [intOf]; exact HF.out.2.2

theorem specFormatInt_any (n : Int) (h0 : -9223372036854775808 ≤ n) (h1 : n ≤ 9223372036854775807) (w : World) :
    Calls Tryd.prog 25 #[.int .i64 n] w fun e w' => e = .returned (.string (itoaB n)) ∧ Below w.heap.size w w' := by
  by_cases hz : n = 0
  · subst hz; exact specFormatInt_zero w
  · by_cases hn : n < 0
    · exact specFormatInt_neg n hn h0 h1 w
    · exact specFormatInt_pos n (by omega) h0 h1 w
end Go.Proofs.YtnnoahoepljejaaDoor
