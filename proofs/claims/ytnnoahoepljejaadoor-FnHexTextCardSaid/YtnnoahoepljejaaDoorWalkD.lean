/-
  The walks of strings.IndexByte and DecodeHex (impl and spec).
-/
import Derived.Test.YtnnoahoepljejaaDoorWalkE
import Derived.Laws.Externs
namespace Go.Proofs.YtnnoahoepljejaaDoor
open Go.RowKit
set_option linter.unusedVariables false
set_option linter.unusedSimpArgs false

/-- The value of a digit, or -1. -/
def valI (x : Int) : Int := if 48 ≤ x ∧ x ≤ 57 then x - 48 else if 97 ≤ x ∧ x ≤ 102 then x - 87 else -1
theorem valI_bd (x : Int) : -1 ≤ valI x ∧ valI x ≤ 15 := by unfold valI; split <;> (try split) <;> omega
theorem first_all : (List.range 256).all (fun n => firstIdx hexText n.toUInt8 == valI n) = true := by kernel_rfl
theorem first_val (x : Int) (h0 : 0 ≤ x) (h1 : x ≤ 255) : firstIdx hexText x.toNat.toUInt8 = valI x := by
  have := List.all_eq_true.1 first_all x.toNat (List.mem_range.2 (by omega))
  rw [beq_iff_eq] at this
  rw [this, Int.toNat_of_nonneg h0]

theorem stringslite_IndexByte (s : ByteArray) (c : Int) (w : World) :
    Calls Tryd.prog 61 #[.string s, .int .u8 c] w fun e w' => e = .returned (.int .i64 (firstIdx s c.toNat.toUInt8)) ∧ w' = w := by
  have hd : ∀ w, (callFunc 69 #[.string s, .int .u8 c]).run Tryd.prog w = .ok (.value (.int .i64 (firstIdx s c.toNat.toUInt8))) w := fun w => by
    rw [run_callFunc_extern Tryd.func69 (by kernel_rfl) (by kernel_rfl) (by kernel_rfl) (e := Extern.BytealgIndexByte.indexByte) (by kernel_rfl), run_indexByte_string]
    rfl
  go_enter Tryd.func61, Tryd.ntmps61
  go_wp2
  go_ret
  exact ⟨rfl, rfl⟩

theorem IndexByte_hex (x : Int) (h0 : 0 ≤ x) (h1 : x ≤ 255) (w : World) :
    Calls Tryd.prog 50 #[.string ⟨#[48, 49, 50, 51, 52, 53, 54, 55, 56, 57, 97, 98, 99, 100, 101, 102]⟩, .int .u8 x] w fun e w' => e = .returned (.int .i64 (valI x)) ∧ w' = w := by
  rw [← first_val x h0 h1]
  go_enter Tryd.func50, Tryd.ntmps50
  go_wp2_with (go_at_call 61; refine (stringslite_IndexByte _ _ _).mono ?_; rintro e w1 ⟨rfl, hw1⟩; subst w1)
  go_ret
  exact ⟨rfl, rfl⟩

/-- The bytes of the first k pairs, and whether they are all good. -/
def decI (s : ByteArray) : Nat → List Int
  | 0 => []
  | k + 1 => decI s k ++ [16 * valI (byteI s (2 * k)) + valI (byteI s (2 * k + 1))]
theorem decI_len (s : ByteArray) : ∀ k, (decI s k).length = k
  | 0 => rfl
  | k + 1 => by
    unfold decI
    rw [List.length_append, decI_len s k]; rfl
def okP (s : ByteArray) (k : Nat) : Bool := decide (0 ≤ valI (byteI s (2 * k))) && decide (0 ≤ valI (byteI s (2 * k + 1)))
def decR (s : ByteArray) : Option ByteArray := if s.size % 2 = 0 ∧ s.size ≤ 40000 ∧ ∀ k, k < s.size / 2 → okP s k = true then some (strOfNums (decI s (s.size / 2))) else none
def Dec (w : World) (s : ByteArray) (e : Ending) (w' : World) : Prop := e = .returned (.tuple #[.string ((decR s).getD ByteArray.empty), .bool (decR s).isSome]) ∧ Below w.heap.size w w'
theorem decR_no1 {s : ByteArray} (h : ¬ s.size % 2 = 0) : decR s = none := by unfold decR; rw [if_neg (fun e => h e.1)]
theorem decR_no2 {s : ByteArray} (h : ¬ s.size ≤ 40000) : decR s = none := by unfold decR; rw [if_neg (fun e => h e.2.1)]
theorem decR_no3 {s : ByteArray} {k : Nat} (hk : k < s.size / 2) (h : okP s k = false) : decR s = none := by unfold decR; rw [if_neg (fun e => by have := e.2.2 k hk; rw [h] at this; cases this)]
theorem decR_yes {s : ByteArray} (h1 : s.size % 2 = 0) (h2 : s.size ≤ 40000) (h3 : ∀ k, k < s.size / 2 → okP s k = true) : decR s = some (strOfNums (decI s (s.size / 2))) := by unfold decR; rw [if_pos ⟨h1, h2, h3⟩]
theorem byte_is (s : ByteArray) (k : Nat) (hk : k < s.size) : (s[k].toNat : Int) = byteI s k := by
  unfold byteI
  have : s.data[k]? = some s[k] := by
    rw [Array.getElem?_eq_getElem (by exact hk)]; rfl
  rw [this]; rfl

theorem DecodeHex_no1 (s : ByteArray) (hm : s.size ≤ maxLen) (h1 : ¬ s.size % 2 = 0) (w : World) :
    Calls Tryd.prog 30 #[.string s] w (Dec w s) := by
  have hr := Lib.hid (decR_no1 h1)
  have e1 : (s.size : Int) % 2 = 1 := by omega
  have e2 : (s.size : Int).tmod 2 = 1 := by rw [Int.tmod_eq_emod_of_nonneg (by omega)]; exact e1
  have hmm : maxLen = 9223372036854775807 := rfl
  by_cases hb : s.size ≤ 40000
  all_goals
    go_enter Tryd.func30, Tryd.ntmps30
    go_wp2
    go_ret2
    exact ⟨by rw [hr.out]; rfl, Below.refl _ _⟩

theorem DecodeHex_no2 (s : ByteArray) (hm : s.size ≤ maxLen) (h1 : s.size % 2 = 0) (h2 : ¬ s.size ≤ 40000) (w : World) :
    Calls Tryd.prog 30 #[.string s] w (Dec w s) := by
  have hr := Lib.hid (decR_no2 h2)
  have e1 : (s.size : Int) % 2 = 0 := by omega
  have e2 : (s.size : Int).tmod 2 = 0 := by rw [Int.tmod_eq_emod_of_nonneg (by omega)]; exact e1
  have hmm : maxLen = 9223372036854775807 := rfl
  obtain ⟨n, hn⟩ : ∃ n : Nat, (s.size : Int) / 2 = n := ⟨s.size / 2, by omega⟩
  have e3 : (s.size : Int).tdiv 2 = n := by rw [Int.tdiv_eq_ediv_of_nonneg (by omega)]; exact hn
  have e4 : (20000 : Int) < (n : Int) := by omega
  have e5 : (40000 : Int) < (s.size : Int) := by omega
  go_enter Tryd.func30, Tryd.ntmps30
  go_wp2
  go_ret2
  exact ⟨by rw [hr.out]; rfl, Below.refl _ _⟩

set_option maxHeartbeats 800000 in
set_option maxRecDepth 100000 in
theorem DecodeHex_yes (s : ByteArray) (h1 : s.size % 2 = 0) (h2 : s.size ≤ 40000) (w : World) :
    Calls Tryd.prog 30 #[.string s] w (Dec w s) := by
  obtain ⟨i0, hi, hz0, hz1, hz2⟩ := info_parts info_u8
  have e1 : (s.size : Int) % 2 = 0 := by omega
  have e2 : (s.size : Int).tmod 2 = 0 := by rw [Int.tmod_eq_emod_of_nonneg (by omega)]; exact e1
  obtain ⟨n, hn⟩ : ∃ n : Nat, (s.size : Int) / 2 = n := ⟨s.size / 2, by omega⟩
  have hnn : s.size / 2 = n := by omega
  have hsn : s.size = 2 * n := by omega
  have e3 : (s.size : Int).tdiv 2 = n := by rw [Int.tdiv_eq_ediv_of_nonneg (by omega)]; exact hn
  have e4 : ¬ (20000 : Int) < (n : Int) := by omega
  have e5 : ¬ (40000 : Int) < (s.size : Int) := by omega
  have HSN := Lib.hid hsn
  have hnb : n ≤ 20000 := by omega
  clear hsn hnn hn
  go_enter Tryd.func30, Tryd.ntmps30
  go_wp2_with (at_make; refine wpList_make_own _ rfl _ _ 22 rfl w.heap.size 5 i0 (.int .u8 0) 1 Tryd.underlying22 hi hz0 hz1 _ _ _ n rfl rfl ?m0 ?m1 ?m2 ?m3 ?_)
  case m0 => rfl
  case m1 => first | omega | (rw [hz2]; omega)
  case m2 => unfold maxLen; omega
  try (case m3 => omega)
  intro ws hown hgr
  have R0 : RowU ws w.heap.size (.slice (some ⟨w.heap.size, 0, none⟩) 0 n) [] := hown
  have hBel := (Below.refl w.heap.size w).grown hgr (Nat.le_refl _) (fun k hk => by simp at hk)
  clear hown hgr
  go_wp2_with fail
  go_loopw [4, 5] (fun v j wr => ∃ k : Nat, k ≤ n ∧ j = .int .i64 (2 * k : Nat) ∧ RowU wr w.heap.size v (decI s k) ∧ (∀ i, i < k → okP s i = true) ∧ Below w.heap.size w wr) (fun _ j _ => s.size - (intOf j).toNat)
  case atStart => exact ⟨0, by omega, rfl, R0, fun i hi => by omega, hBel⟩
  case round =>
    obtain ⟨k, hk, rfl, hrow, hok, hB⟩ := hrel
    obtain ⟨K, hKK⟩ : ∃ K : Nat, 2 * k = K := ⟨_, rfl⟩
    rw [hKK]
    by_cases hlt : ¬ k < n
    · have hge : k = n := by omega
      have hlt2 : ¬ (K : Int) < (s.size : Int) := by have := HSN.out; omega
      have hr := Lib.hid (decR_yes h1 h2 (fun i hi => hok i (by have := HSN.out; omega)))
      have hcv := RowU.str (P := Tryd.prog) hrow 22 9 Tryd.underlying22 Tryd.underlying5 Tryd.underlying9
      go_wp2
      go_ret2
      exact ⟨by rw [hr.out, show s.size / 2 = n from by have := HSN.out; omega]; rfl, hB⟩
    have hlt : k < n := by omega
    have hI0 : (0 : Int) ≤ (K : Int) := by omega
    have hKb : K + 1 < s.size := by have := HSN.out; omega
    have hk2 : k < s.size / 2 := by have := HSN.out; omega
    have hI1 : (K : Int) < (s.size : Int) := by omega
    have ht : ((K : Int) + 1).toNat = K + 1 := by omega
    have hI4 : (K : Int) + 1 < (s.size : Int) := by omega
    have hI5 : (0 : Int) ≤ (K : Int) + 1 := by omega
    have hbx := byte_is s K (by omega)
    have hby := byte_is s (K + 1) (by omega)
    obtain ⟨hx0, hx1⟩ := byteI_bd s K
    obtain ⟨hy0, hy1⟩ := byteI_bd s (K + 1)
    have hdec : decI s (k + 1) = decI s k ++ [16 * valI (byteI s K) + valI (byteI s (K + 1))] := by rw [← hKK]; rfl
    have hokk : okP s k = (decide (0 ≤ valI (byteI s K)) && decide (0 ≤ valI (byteI s (K + 1)))) := by rw [← hKK]; rfl
    generalize byteI s K = x at hbx hdec hokk hx0 hx1
    generalize byteI s (K + 1) = y at hby hdec hokk hy0 hy1
    have hvx := valI_bd x
    have hvy := valI_bd y
    have hdlen := decI_len s k
    obtain ⟨a, hva⟩ : ∃ a, valI x = a := ⟨_, rfl⟩
    obtain ⟨b, hvb⟩ : ∃ b, valI y = b := ⟨_, rfl⟩
    rw [hva] at hdec hokk hvx
    rw [hvb] at hdec hokk hvy
    have HOK := Lib.hid hok
    have HDEC := Lib.hid hdec
    clear hok hdec
    by_cases ha : 0 ≤ a
    case neg =>
      have hr := Lib.hid (decR_no3 (s := s) (k := k) hk2 (by rw [hokk, decide_eq_false ha]; rfl))
      have ha2 : a < 0 := by omega
      go_wp2_with (go_at_call 50; refine (IndexByte_hex _ (by assumption) (by assumption) _).mono ?_; rintro e wx ⟨rfl, hwx⟩; subst wx)
      go_ret2
      exact ⟨by rw [hr.out]; rfl, hB⟩
    have ha2 : ¬ a < 0 := by omega
    by_cases hb : 0 ≤ b
    case neg =>
      have hr := Lib.hid (decR_no3 (s := s) (k := k) hk2 (by rw [hokk, decide_eq_false hb, Bool.and_false]))
      have hb2 : b < 0 := by omega
      go_wp2_with (go_at_call 50; refine (IndexByte_hex _ (by assumption) (by assumption) _).mono ?_; rintro e wx ⟨rfl, hwx⟩; subst wx)
      go_ret2
      exact ⟨by rw [hr.out]; rfl, hB⟩
    have hb2 : ¬ b < 0 := by omega
    have hokk2 := Lib.hid (show okP s k = true by rw [hokk, decide_eq_true ha, decide_eq_true hb]; rfl)
    obtain ⟨xs, hxs⟩ : ∃ xs, decI s k = xs := ⟨_, rfl⟩
    rw [hxs] at hrow hdlen
    have Hxs := Lib.hid hxs
    have hszr := hB.size
    have hc8 : IntKind.u8.wrap (16 * a + b) = 16 * a + b := by unfold IntKind.wrap; simp [IntKind.bits, IntKind.signed]; omega
    have hown := hrow
    unfold RowU at hown
    clear hxs hokk
    go_wp2_with (first | (go_at_call 50; refine (IndexByte_hex _ (by assumption) (by assumption) _).mono ?_; rintro e wx ⟨rfl, hwx⟩; subst wx) | (at_builtin; refine wpList_append_own_at _ rfl _ _ 22 rfl w.heap.size 5 i0 (.int .u8 0) 1 1 Tryd.underlying22 hi hz0 hz1 hz2 rfl (by decide) _ _ _ rfl (hown.alloc _) ⟨wr.heap.size, 0, none⟩ 1 1 [.int .u8 (16 * a + b)] rfl rfl ?c1 ?c2 ?c3 ?c4 ?c5 ?_))
    case c1 => exact cell_one_new _ _ _
    case c2 => simp [Value.oneCell']
    case c3 => unfold maxLen; omega
    case c4 => omega
    case c5 => simp; omega
    intro v' w3 hown' hgrow _ hat
    have R := Lib.hid (RowU.put1 (xs := xs) (x := 16 * a + b) (by rw [hdlen]; exact hown'))
    have hB3 := Lib.hid ((hB.more _).grown hgrow (by simp; omega) (fun j hj => (World.ownsRow.lt hown j hj).1))
    clear hown hown' hgrow hat
    go_wp2
    go_roundw
    case rel =>
      refine ⟨k + 1, by omega, by go_num, by rw [HDEC.out, Hxs.out]; exact R.out, fun i hi => ?_, hB3.out⟩
      by_cases hik : i < k
      · exact HOK.out i hik
      · rw [show i = k from by omega]; exact hokk2.out
    case measure => simp [intOf]; omega

theorem DecodeHex_any (s : ByteArray) (hm : s.size ≤ maxLen) (w : World) : Calls Tryd.prog 30 #[.string s] w (Dec w s) := by
  by_cases h1 : s.size % 2 = 0
  · by_cases h2 : s.size ≤ 40000
    · exact DecodeHex_yes s h1 h2 w
    · exact DecodeHex_no2 s hm h1 h2 w
  · exact DecodeHex_no1 s hm h1 w
end Go.Proofs.YtnnoahoepljejaaDoor
