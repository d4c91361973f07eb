/-
  The fields of a line, joined by single spaces, have the same fields. No program in sight.
-/
import Derived.Test.YtnnoahoepljejaaDoorSplit
namespace Go.Proofs.YtnnoahoepljejaaDoor
open Go.RowKit
set_option linter.unusedVariables false

theorem byteI_app1 (a b : ByteArray) (i : Nat) (h : i < a.size) : byteI (a ++ b) i = byteI a i := by
  unfold byteI
  rw [ByteArray.data_append, Array.getElem?_append_left (by exact h)]
theorem byteI_app2 (a b : ByteArray) (i : Nat) : byteI (a ++ b) (a.size + i) = byteI b i := by
  unfold byteI
  rw [ByteArray.data_append, Array.getElem?_append_right (by show a.size ≤ _; omega), show a.size + i - a.data.size = i from by show a.size + i - a.size = i; omega]
theorem byteI_ext {a b : ByteArray} (h : a.size = b.size) (hb : ∀ i, i < a.size → byteI a i = byteI b i) : a = b := by
  apply ByteArray.ext
  apply Array.ext
  · exact h
  · intro i h1 h2
    have := hb i h1
    unfold byteI at this
    rw [Array.getElem?_eq_getElem h1, Array.getElem?_eq_getElem h2] at this
    simp only [Option.getD_some] at this
    apply UInt8.toNat_inj.1
    omega
theorem byteI_extract (s : ByteArray) (a b i : Nat) (h : a + i < b) : byteI (s.extract a b) i = byteI s (a + i) := by
  unfold byteI
  rw [ByteArray.data_extract, Array.getElem?_extract]
  split
  · rfl
  · rw [Array.getElem?_eq_none (by omega)]

/-- A field as it comes out of a line that is kept. -/
def goodF (f : ByteArray) : Prop := 0 < f.size ∧ f.size ≤ 600 ∧ ∀ i, i < f.size → byteI f i ≠ 32 ∧ badC (byteI f i) = false
theorem splitS_good (s : ByteArray) (hs : s.size ≤ 600) (hn : ∀ j, j < s.size → badC (byteI s j) = false) : ∀ i, (∀ f ∈ (splitS s i).1, goodF f) ∧ ∀ j, (splitS s i).2 ≤ j → j < i → byteI s j ≠ 32
  | 0 => ⟨fun f hf => by simp [splitS] at hf, fun j _ h => by omega⟩
  | i + 1 => by
    obtain ⟨h1, h2⟩ := splitS_good s hs hn i
    have hle := splitS_le s i
    obtain ⟨Fs, b⟩ : ∃ Fs, splitS s i = Fs := ⟨_, rfl⟩
    by_cases hsep : i = s.size ∨ byteI s i = 32
    · have hi : i ≤ s.size := by
        rcases hsep with h | h
        · omega
        · by_cases hi : i < s.size
          · omega
          · unfold byteI at h
            rw [Array.getElem?_eq_none (by exact Nat.le_of_not_lt hi)] at h
            simp at h
      unfold splitS
      rw [if_pos hsep]
      refine ⟨?_, fun j hj hj2 => by dsimp only at hj; omega⟩
      dsimp only
      split
      · intro f hf
        rw [List.mem_append] at hf
        rcases hf with hf | hf
        · exact h1 f hf
        · obtain rfl : f = _ := by simpa using hf
          have hsz : (s.extract (splitS s i).2 i).size = i - (splitS s i).2 := by rw [ByteArray.size_extract]; omega
          refine ⟨by omega, by omega, fun j hj => ?_⟩
          rw [byteI_extract _ _ _ _ (by omega)]
          exact ⟨h2 _ (by omega) (by omega), hn _ (by omega)⟩
      · exact h1
    · unfold splitS
      rw [if_neg hsep]
      refine ⟨h1, fun j hj hj2 => ?_⟩
      by_cases hji : j < i
      · exact h2 j hj hji
      · have : j = i := by omega
        rw [this]; exact fun e => hsep (.inr e)
theorem splR_good {s : ByteArray} {Fs : List ByteArray} (h : splR s = (Fs, true)) : Fs.length ≤ 24 ∧ ∀ f ∈ Fs, goodF f := by
  unfold splR at h
  split at h
  case isTrue hc =>
    injection h with h1 h2
    subst h1
    exact ⟨hc.2.2, (splitS_good s hc.1 hc.2.1 _).1⟩
  case isFalse => injection h with h1 h2; cases h2
theorem splR_false {s : ByteArray} {Fs : List ByteArray} (h : splR s = (Fs, false)) : Fs = [] := by
  unfold splR at h
  split at h
  · injection h with h1 h2; cases h2
  · injection h with h1 h2; exact h1.symm

/-- The first k fields, each with a space behind it. -/
def joinK (Fs : List ByteArray) : Nat → ByteArray
  | 0 => ⟨#[]⟩
  | k + 1 => joinK Fs k ++ Fs[k]?.getD ByteArray.empty ++ ⟨#[32]⟩
theorem joinK_size (Fs : List ByteArray) (k : Nat) : (joinK Fs (k + 1)).size = (joinK Fs k).size + (Fs[k]?.getD ByteArray.empty).size + 1 := by
  show (joinK Fs k ++ _ ++ _).size = _
  rw [ByteArray.size_append, ByteArray.size_append]; rfl
theorem joinK_le {Fs : List ByteArray} (hg : ∀ f ∈ Fs, goodF f) : ∀ k, k ≤ Fs.length → (joinK Fs k).size ≤ 601 * k
  | 0, _ => by simp [joinK, ByteArray.size]
  | k + 1, h => by
    have ih := joinK_le hg k (by omega)
    rw [joinK_size, List.getElem?_eq_getElem (by omega), Option.getD_some]
    have := (hg _ (List.getElem_mem (show k < Fs.length by omega))).2.1
    omega
theorem joinK_mono (Fs : List ByteArray) (k : Nat) : ∀ m, (joinK Fs k).size ≤ (joinK Fs (k + m)).size ∧ ∀ i, i < (joinK Fs k).size → byteI (joinK Fs (k + m)) i = byteI (joinK Fs k) i
  | 0 => ⟨Nat.le_refl _, fun _ _ => rfl⟩
  | m + 1 => by
    obtain ⟨h1, h2⟩ := joinK_mono Fs k m
    have hs := joinK_size Fs (k + m)
    refine ⟨by rw [← Nat.add_assoc]; omega, fun i hi => ?_⟩
    rw [← h2 i hi, ← Nat.add_assoc]
    show byteI (joinK Fs (k + m) ++ _ ++ _) i = _
    rw [byteI_app1 _ _ _ (by rw [ByteArray.size_append]; omega), byteI_app1 _ _ _ (by omega)]
theorem joinK_in (Fs : List ByteArray) (k i : Nat) (h : i < (Fs[k]?.getD ByteArray.empty).size) : byteI (joinK Fs (k + 1)) ((joinK Fs k).size + i) = byteI (Fs[k]?.getD ByteArray.empty) i := by
  show byteI (joinK Fs k ++ _ ++ _) _ = _
  rw [byteI_app1 _ _ _ (by rw [ByteArray.size_append]; omega), byteI_app2]
theorem joinK_end (Fs : List ByteArray) (k : Nat) : byteI (joinK Fs (k + 1)) ((joinK Fs k).size + (Fs[k]?.getD ByteArray.empty).size) = 32 := by
  show byteI (joinK Fs k ++ _ ++ _) _ = _
  rw [← ByteArray.size_append]
  have := byteI_app2 (joinK Fs k ++ Fs[k]?.getD ByteArray.empty) ⟨#[32]⟩ 0
  rw [Nat.add_zero] at this
  rw [this]; rfl
theorem joinK_bad {Fs : List ByteArray} (hg : ∀ f ∈ Fs, goodF f) : ∀ k, k ≤ Fs.length → ∀ j, j < (joinK Fs k).size → badC (byteI (joinK Fs k) j) = false
  | 0, _, j, h => by simp [joinK, ByteArray.size] at h
  | k + 1, hk, j, h => by
    have hs := joinK_size Fs k
    have hf : goodF (Fs[k]?.getD ByteArray.empty) := by
      rw [List.getElem?_eq_getElem (by omega), Option.getD_some]; exact hg _ (List.getElem_mem _)
    by_cases h1 : j < (joinK Fs k).size
    · rw [(joinK_mono Fs k 1).2 j h1]; exact joinK_bad hg k (by omega) j h1
    · obtain ⟨i, rfl⟩ : ∃ i, j = (joinK Fs k).size + i := ⟨j - (joinK Fs k).size, by omega⟩
      by_cases h2 : i < (Fs[k]?.getD ByteArray.empty).size
      · rw [joinK_in Fs k i h2]; exact (hf.2.2 i h2).2
      · obtain rfl : i = (Fs[k]?.getD ByteArray.empty).size := by omega
        rw [joinK_end]; rfl
theorem splitS_join {Fs : List ByteArray} (hg : ∀ f ∈ Fs, goodF f) (s : ByteArray) (hs : joinK Fs Fs.length = s) : ∀ k, k ≤ Fs.length → splitS s (joinK Fs k).size = (Fs.take k, (joinK Fs k).size)
  | 0, _ => rfl
  | k + 1, hk => by
    have ih := splitS_join hg s hs k (by omega)
    have hsz := joinK_size Fs k
    obtain ⟨m, hm⟩ : ∃ m, Fs.length = k + 1 + m := ⟨Fs.length - (k + 1), by omega⟩
    have hmo := joinK_mono Fs (k + 1) m
    rw [← hm, hs] at hmo
    obtain ⟨hm1, hm2⟩ := hmo
    obtain ⟨f, hf⟩ : ∃ f, Fs[k]?.getD ByteArray.empty = f := ⟨_, rfl⟩
    have hin := joinK_in Fs k
    have hend := joinK_end Fs k
    rw [hf] at hin hend hsz
    have hfg : Fs[k]? = some f := by rw [List.getElem?_eq_getElem (by omega)] at hf ⊢; rw [← hf]; rfl
    have hgf : goodF f := hg f (List.mem_of_getElem? hfg)
    obtain ⟨a, ha⟩ : ∃ a, (joinK Fs k).size = a := ⟨_, rfl⟩
    rw [ha] at ih hsz hin hend
    have hb : ∀ i, i < f.size → byteI s (a + i) = byteI f i := fun i hi => by rw [hm2 _ (by omega)]; exact hin i hi
    have he : byteI s (a + f.size) = 32 := by rw [hm2 _ (by omega)]; exact hend
    have hrun : ∀ i, i ≤ f.size → splitS s (a + i) = (Fs.take k, a) := by
      intro i
      induction i with
      | zero => intro _; exact ih
      | succ i ihi =>
        intro hi
        have := ihi (by omega)
        refine splitS_in this ?_
        show ¬ (a + i = s.size ∨ byteI s (a + i) = 32)
        rintro (e | e)
        · omega
        · rw [hb i (by omega)] at e; exact (hgf.2.2 i (by omega)).1 e
    have hlast := splitS_sep (hrun f.size (Nat.le_refl _)) (.inr he) (by have := hgf.1; omega)
    rw [hsz, hlast]
    have hx : s.extract a (a + f.size) = f := by
      have hsx : (s.extract a (a + f.size)).size = f.size := by rw [ByteArray.size_extract]; omega
      refine byteI_ext hsx (fun i hi => ?_)
      rw [byteI_extract _ _ _ _ (by omega)]
      exact hb i (by omega)
    rw [hx, List.take_add_one, hfg]
    rfl
theorem splR_join {Fs : List ByteArray} (hg : ∀ f ∈ Fs, goodF f) (hl : Fs.length ≤ 24) (s : ByteArray) (hs : joinK Fs Fs.length = s) (h6 : s.size ≤ 600) : splR s = (Fs, true) := by
  have h := splitS_join hg s hs Fs.length (Nat.le_refl _)
  rw [hs, List.take_length] at h
  have h2 := splitS_sep0 h (.inl rfl) (Nat.lt_irrefl _)
  have hb := joinK_bad hg Fs.length (Nat.le_refl _)
  rw [hs] at hb
  have := splR_yes h6 hb (by rw [h2]; exact hl)
  rw [h2] at this
  exact this
end Go.Proofs.YtnnoahoepljejaaDoor
