/-
  Hexadecimal text and back, in plain terms. No program in sight.
-/
import Derived.Test.YtnnoahoepljejaaDoorWalkD
namespace Go.Proofs.YtnnoahoepljejaaDoor
open Go.RowKit
set_option linter.unusedVariables false

theorem strOf_size (xs : List Int) : (strOfNums xs).size = xs.length := by simp [strOfNums, ByteArray.size]
theorem strOf_byte (xs : List Int) (k : Nat) (x : Int) (h : xs[k]? = some x) (h0 : 0 ≤ x) (h1 : x ≤ 255) : byteI (strOfNums xs) k = x := by
  unfold byteI strOfNums
  simp only [List.getElem?_toArray, List.getElem?_map, h, Option.map_some, Option.getD_some, UInt8.toNat_ofNat']
  omega
theorem encI_at (s : ByteArray) : ∀ n k, k < n → (encI s n)[2 * k]? = some (hexI (byteI s k / 16)) ∧ (encI s n)[2 * k + 1]? = some (hexI (byteI s k % 16))
  | n + 1, k, h => by
    have hl := encI_len s n
    by_cases e : k = n
    · subst e
      unfold encI
      constructor
      · rw [List.getElem?_append_right (by omega), hl, Nat.sub_self]; rfl
      · rw [List.getElem?_append_right (by omega), hl, show 2 * k + 1 - 2 * k = 1 from by omega]; rfl
    · have ih := encI_at s n k (by omega)
      unfold encI
      constructor
      · rw [List.getElem?_append_left (by omega)]; exact ih.1
      · rw [List.getElem?_append_left (by omega)]; exact ih.2
theorem hexI_bd {d : Int} (h0 : 0 ≤ d) (h1 : d < 16) : 0 ≤ hexI d ∧ hexI d ≤ 255 ∧ valI (hexI d) = d := by
  unfold hexI valI
  split
  · rw [if_pos (by omega)]; omega
  · rw [if_neg (by omega), if_pos (by omega)]; omega
theorem enc_bytes (s : ByteArray) (k : Nat) (h : k < s.size) :
    valI (byteI (strOfNums (encI s s.size)) (2 * k)) = byteI s k / 16 ∧ valI (byteI (strOfNums (encI s s.size)) (2 * k + 1)) = byteI s k % 16 := by
  have hb := byteI_bd s k
  obtain ⟨e1, e2⟩ := encI_at s s.size k h
  have h1 := hexI_bd (d := byteI s k / 16) (by omega) (by omega)
  have h2 := hexI_bd (d := byteI s k % 16) (by omega) (by omega)
  rw [strOf_byte _ _ _ e1 h1.1 h1.2.1, strOf_byte _ _ _ e2 h2.1 h2.2.1]
  exact ⟨h1.2.2, h2.2.2⟩
theorem decI_enc (s : ByteArray) : ∀ n, n ≤ s.size → decI (strOfNums (encI s s.size)) n = (List.range n).map (byteI s)
  | 0, _ => rfl
  | n + 1, h => by
    have ih := decI_enc s n (by omega)
    obtain ⟨e1, e2⟩ := enc_bytes s n (by omega)
    have hb := byteI_bd s n
    unfold decI
    rw [ih, e1, e2, List.range_succ, List.map_append]
    congr 2
    omega
theorem str_bytes (s : ByteArray) : strOfNums ((List.range s.size).map (byteI s)) = s := by
  apply ByteArray.ext
  apply Array.ext
  · have h := strOf_size ((List.range s.size).map (byteI s))
    rw [List.length_map, List.length_range] at h
    exact h
  · intro i h1 h2
    simp only [strOfNums, List.map_map, List.getElem_toArray, List.getElem_map, List.getElem_range, Function.comp]
    unfold byteI
    rw [Array.getElem?_eq_getElem h2]
    simp
theorem dec_enc (s : ByteArray) (h : s.size ≤ 20000) : decR (strOfNums (encI s s.size)) = some s := by
  have hl : (strOfNums (encI s s.size)).size = 2 * s.size := by rw [strOf_size, encI_len]
  rw [decR_yes (by rw [hl]; omega) (by rw [hl]; omega) (fun k hk => ?_)]
  · rw [show (strOfNums (encI s s.size)).size / 2 = s.size from by rw [hl]; omega, decI_enc s s.size (Nat.le_refl _), str_bytes]
  · rw [show (strOfNums (encI s s.size)).size / 2 = s.size from by rw [hl]; omega] at hk
    obtain ⟨e1, e2⟩ := enc_bytes s k hk
    have hb := byteI_bd s k
    unfold okP
    rw [e1, e2]
    simp; omega
end Go.Proofs.YtnnoahoepljejaaDoor
