/-
  The number of bits of a number: how the shifts and masks of math/bits.OnesCount64 come to it. Plain Lean, no program in sight.
-/
import Derived.Laws.BitsAllLaws
namespace Go.Proofs.YtnnoahoepljejaaDoor.Pop
open Go
def pc : Nat → Nat → Nat
  | 0, _ => 0
  | n + 1, x => x % 2 + pc n (x / 2)
def M0 : Nat := 0x5555555555555555
def M1 : Nat := 0x3333333333333333
def M2 : Nat := 0x0f0f0f0f0f0f0f0f
def S1 (x : Nat) : Nat := (x / 2 &&& M0) + (x &&& M0)
def S2 (x : Nat) : Nat := (x / 4 &&& M1) + (x &&& M1)
def S3 (x : Nat) : Nat := (x / 16 + x) &&& M2
theorem and_split (A M : Nat) : A &&& M = 256 * (A / 256 &&& M / 256) + (A % 256 &&& M % 256) := by
  have h1 := Nat.and_div_two_pow (a := A) (b := M) (n := 8)
  have h2 := Nat.and_mod_two_pow (a := A) (b := M) (n := 8)
  have := Nat.div_add_mod (A &&& M) 256
  simp only [Nat.reducePow] at h1 h2
  rw [← h1, ← h2]; omega
theorem and_small (y M : Nat) (hy : y < 2 ^ 56) (h : M % 2 ^ 56 = M / 256) : y &&& M / 256 = y &&& M := by
  rw [← h]
  have := Nat.and_mod_two_pow (a := y) (b := M) (n := 56)
  rw [Nat.mod_eq_of_lt hy] at this
  rw [← this]
  exact Nat.mod_eq_of_lt (Nat.lt_of_le_of_lt Nat.and_le_left hy)
theorem low1 : ∀ b < 256, ∀ c < 2, (c * 128 + b / 2) &&& 85 = b / 2 &&& 85 := by decide +kernel
theorem S1_step (y b : Nat) (hy : y < 2 ^ 56) (hb : b < 256) : S1 (256 * y + b) = 256 * S1 y + S1 b := by
  unfold S1
  rw [and_split ((256 * y + b) / 2), and_split (256 * y + b)]
  rw [and_small _ M0 (by omega) (by decide), and_small _ M0 (by omega) (by decide)]
  have e1 : (256 * y + b) / 2 / 256 = y / 2 := by omega
  have e2 : (256 * y + b) / 2 % 256 = (y % 2) * 128 + b / 2 := by omega
  have e3 : (256 * y + b) / 256 = y := by omega
  have e4 : (256 * y + b) % 256 = b := by omega
  have e5 : M0 % 256 = 85 := by decide
  rw [e1, e2, e3, e4, e5, low1 b hb _ (by omega)]
  have f1 : b / 2 &&& M0 = b / 2 &&& 85 := by
    rw [and_split (b / 2) M0, e5, Nat.mod_eq_of_lt (by omega), Nat.div_eq_of_lt (by omega : b / 2 < 256)]; simp
  have f2 : b &&& M0 = b &&& 85 := by
    rw [and_split b M0, e5, Nat.mod_eq_of_lt hb, Nat.div_eq_of_lt hb]; simp
  rw [f1, f2]; omega
theorem low2 : ∀ b < 256, ∀ c < 4, (c * 64 + b / 4) &&& 51 = b / 4 &&& 51 := by decide +kernel
theorem S2_step (y b : Nat) (hy : y < 2 ^ 56) (hb : b < 256) : S2 (256 * y + b) = 256 * S2 y + S2 b := by
  unfold S2
  rw [and_split ((256 * y + b) / 4), and_split (256 * y + b)]
  rw [and_small _ M1 (by omega) (by decide), and_small _ M1 (by omega) (by decide)]
  have e1 : (256 * y + b) / 4 / 256 = y / 4 := by omega
  have e2 : (256 * y + b) / 4 % 256 = (y % 4) * 64 + b / 4 := by omega
  have e3 : (256 * y + b) / 256 = y := by omega
  have e4 : (256 * y + b) % 256 = b := by omega
  have e5 : M1 % 256 = 51 := by decide
  rw [e1, e2, e3, e4, e5, low2 b hb _ (by omega)]
  have f1 : b / 4 &&& M1 = b / 4 &&& 51 := by
    rw [and_split (b / 4) M1, e5, Nat.mod_eq_of_lt (by omega), Nat.div_eq_of_lt (by omega : b / 4 < 256)]; simp
  have f2 : b &&& M1 = b &&& 51 := by
    rw [and_split b M1, e5, Nat.mod_eq_of_lt hb, Nat.div_eq_of_lt hb]; simp
  rw [f1, f2]; omega

theorem S3_step (y c : Nat) (hy : y < 2 ^ 55) (hl : y % 16 ≤ 4) (hp : c / 16 ≤ 4) (hq : c % 16 ≤ 4) : S3 (256 * y + c) = 256 * S3 y + (c / 16 + c % 16) := by
  unfold S3
  rw [and_split ((256 * y + c) / 16 + (256 * y + c)), and_small _ M2 (by omega) (by decide)]
  have e1 : ((256 * y + c) / 16 + (256 * y + c)) / 256 = y / 16 + y := by omega
  have e2 : ((256 * y + c) / 16 + (256 * y + c)) % 256 = 16 * (y % 16 + c / 16) + (c / 16 + c % 16) := by omega
  have e5 : M2 % 256 = 15 := by decide
  rw [e1, e2, e5]
  have e6 : (16 * (y % 16 + c / 16) + (c / 16 + c % 16)) &&& 15 = c / 16 + c % 16 := by rw [Nat.and_two_pow_sub_one_eq_mod _ 4]; omega
  rw [e6]

/-- The number with these bytes, the lowest first. -/
def ofB : List Nat → Nat
  | [] => 0
  | b :: l => 256 * ofB l + b
theorem ofB_lt : ∀ l : List Nat, (∀ b ∈ l, b < 256) → ofB l < 256 ^ l.length
  | [], _ => by simp [ofB]
  | b :: l, h => by
    have := ofB_lt l (fun x hx => h x (by simp [hx]))
    have hb := h b (by simp)
    simp only [ofB, List.length_cons, Nat.pow_succ]; omega
theorem pow_le (l : List Nat) (h : l.length ≤ 7) : 256 ^ l.length ≤ 2 ^ 56 := by
  have : 256 ^ l.length ≤ 256 ^ 7 := Nat.pow_le_pow_right (by decide) h
  simpa using this
theorem S1_lt : ∀ b < 256, S1 b < 256 := by decide +kernel
theorem S12 : ∀ b < 256, S2 (S1 b) / 16 ≤ 4 ∧ S2 (S1 b) % 16 ≤ 4 ∧ S2 (S1 b) / 16 + S2 (S1 b) % 16 = pc 8 b := by decide +kernel
theorem S1_all : ∀ l : List Nat, l.length ≤ 8 → (∀ b ∈ l, b < 256) → S1 (ofB l) = ofB (l.map S1)
  | [], _, _ => by decide
  | b :: l, hl, h => by
    simp only [List.length_cons] at hl
    have h7 := ofB_lt l (fun x hx => h x (by simp [hx]))
    have hp := pow_le l (by omega)
    have := S1_all l (by omega) (fun x hx => h x (by simp [hx]))
    simp only [ofB, List.map_cons]
    rw [S1_step _ _ (by omega) (h b (by simp)), this]
theorem S2_all : ∀ l : List Nat, l.length ≤ 8 → (∀ b ∈ l, b < 256) → S2 (ofB l) = ofB (l.map S2)
  | [], _, _ => by decide
  | b :: l, hl, h => by
    simp only [List.length_cons] at hl
    have h7 := ofB_lt l (fun x hx => h x (by simp [hx]))
    have hp := pow_le l (by omega)
    have := S2_all l (by omega) (fun x hx => h x (by simp [hx]))
    simp only [ofB, List.map_cons]
    rw [S2_step _ _ (by omega) (h b (by simp)), this]
theorem ofB_third : ∀ l : List Nat, (∀ c ∈ l, c / 16 ≤ 4 ∧ c % 16 ≤ 4) → 3 * ofB l < 256 ^ l.length
  | [], _ => by simp [ofB]
  | b :: l, h => by
    have := ofB_third l (fun x hx => h x (by simp [hx]))
    have hb := h b (by simp)
    simp only [ofB, List.length_cons, Nat.pow_succ]; omega
theorem ofB_low (l : List Nat) (h : ∀ c ∈ l, c / 16 ≤ 4 ∧ c % 16 ≤ 4) : ofB l % 16 ≤ 4 := by
  cases l with
  | nil => simp [ofB]
  | cons b l => have := h b (by simp); simp only [ofB]; omega
theorem S3_all : ∀ l : List Nat, l.length ≤ 8 → (∀ c ∈ l, c / 16 ≤ 4 ∧ c % 16 ≤ 4) → S3 (ofB l) = ofB (l.map fun c => c / 16 + c % 16)
  | [], _, _ => by decide
  | b :: l, hl, h => by
    simp only [List.length_cons] at hl
    have hr : ∀ c ∈ l, c / 16 ≤ 4 ∧ c % 16 ≤ 4 := fun x hx => h x (by simp [hx])
    have h7 := ofB_third l hr
    have hp := pow_le l (by omega)
    have := S3_all l (by omega) hr
    have hb := h b (by simp)
    simp only [ofB, List.map_cons]
    rw [S3_step _ _ (by omega) (ofB_low l hr) hb.1 hb.2, this]
theorem S_all (l : List Nat) (hl : l.length ≤ 8) (h : ∀ b ∈ l, b < 256) : S3 (S2 (S1 (ofB l))) = ofB (l.map (pc 8)) := by
  rw [S1_all l hl h, S2_all _ (by simpa using hl) (by simp only [List.mem_map]; rintro _ ⟨a, ha, rfl⟩; exact S1_lt a (h a ha)),
    S3_all _ (by simpa using hl) (by simp only [List.mem_map]; rintro _ ⟨_, ⟨a, ha, rfl⟩, rfl⟩; exact ⟨(S12 a (h a ha)).1, (S12 a (h a ha)).2.1⟩)]
  simp only [List.map_map]
  congr 1
  apply List.map_congr_left
  intro a ha
  exact (S12 a (h a ha)).2.2
def bytes8 (x : Nat) : List Nat := [x % 256, x / 256 % 256, x / 65536 % 256, x / 16777216 % 256, x / 4294967296 % 256, x / 1099511627776 % 256, x / 281474976710656 % 256, x / 72057594037927936 % 256]
theorem ofB_bytes8 (x : Nat) (h : x < 2 ^ 64) : ofB (bytes8 x) = x := by simp only [ofB, bytes8]; omega
theorem pc8_le : ∀ b < 256, pc 8 b ≤ 8 := by decide +kernel
theorem pc_add : ∀ (m n x : Nat), pc (m + n) x = pc m x + pc n (x / 2 ^ m)
  | 0, n, x => by simp [pc]
  | m + 1, n, x => by
    rw [show m + 1 + n = (m + n) + 1 from by omega]
    have e : x / 2 ^ (m + 1) = x / 2 / 2 ^ m := by rw [Nat.pow_succ, Nat.div_div_eq_div_mul, Nat.mul_comm]
    rw [pc, pc, pc_add m n (x / 2), e]; omega
theorem pc_mod : ∀ (m x : Nat), pc m (x % 2 ^ m) = pc m x
  | 0, _ => rfl
  | m + 1, x => by
    have e1 : x % 2 ^ (m + 1) % 2 = x % 2 := Nat.mod_mod_of_dvd _ ⟨2 ^ m, by rw [Nat.pow_succ, Nat.mul_comm]⟩
    have e2 : x % 2 ^ (m + 1) / 2 = x / 2 % 2 ^ m := by
      rw [Nat.pow_succ, Nat.mul_comm, Nat.mod_mul_right_div_self]
    rw [pc, pc, e1, e2, pc_mod m (x / 2)]
theorem pc_step (n x : Nat) : pc (8 + n) x = pc 8 (x % 256) + pc n (x / 256) := by
  have := pc_add 8 n x
  have h := pc_mod 8 x
  simp only [Nat.reducePow] at this h
  rw [this, h]
theorem pc64 (x : Nat) : pc 64 x = ((bytes8 x).map (pc 8)).sum := by
  have h1 := pc_step 56 x
  have h2 := pc_step 48 (x / 256)
  have h3 := pc_step 40 (x / 65536)
  have h4 := pc_step 32 (x / 16777216)
  have h5 := pc_step 24 (x / 4294967296)
  have h6 := pc_step 16 (x / 1099511627776)
  have h7 := pc_step 8 (x / 281474976710656)
  have h8 := pc_step 0 (x / 72057594037927936)
  simp only [Nat.div_div_eq_div_mul, Nat.reduceMul, Nat.reduceAdd] at h1 h2 h3 h4 h5 h6 h7 h8
  rw [h1, h2, h3, h4, h5, h6, h7, h8]
  have h0 : ∀ y, pc 0 y = 0 := fun _ => rfl
  rw [h0]
  simp only [bytes8, List.map_cons, List.map_nil, List.sum_cons, List.sum_nil]
theorem pc_count : ∀ (n x : Nat), pc n x = ((List.range n).filter x.testBit).length
  | 0, _ => rfl
  | n + 1, x => by
    rw [pc, pc_count n (x / 2), List.range_succ_eq_map, List.filter_cons, List.filter_map]
    have e : (Nat.testBit x ∘ Nat.succ) = Nat.testBit (x / 2) := by funext i; exact Nat.testBit_succ x i
    rw [e, Nat.testBit_zero]
    by_cases h : x % 2 = 1
    · simp [h]; omega
    · have : x % 2 = 0 := by omega
      simp [this]
theorem bits_le (x : Nat) : ∀ b ∈ bytes8 x, b < 256 := by simp only [bytes8, List.mem_cons, List.not_mem_nil, or_false]; omega
/-- The last three additions and the mask. -/
theorem fold8 (c0 c1 c2 c3 c4 c5 c6 c7 : Nat) (h0 : c0 ≤ 8) (h1 : c1 ≤ 8) (h2 : c2 ≤ 8) (h3 : c3 ≤ 8) (h4 : c4 ≤ 8) (h5 : c5 ≤ 8) (h6 : c6 ≤ 8) (h7 : c7 ≤ 8) (x3 y z u : Nat)
    (hx : x3 = ofB [c0, c1, c2, c3, c4, c5, c6, c7]) (hy : y = x3 + x3 / 256) (hz : z = y + y / 65536) (hu : u = z + z / 4294967296) :
    y < 2 ^ 63 ∧ z < 2 ^ 63 ∧ u < 2 ^ 63 ∧ u % 128 = c0 + c1 + c2 + c3 + c4 + c5 + c6 + c7 := by
  simp only [ofB] at hx
  have d1 : x3 / 256 = ofB [c1, c2, c3, c4, c5, c6, c7] := by simp only [ofB]; omega
  simp only [ofB] at d1
  rw [d1, hx] at hy
  have d2 : y / 65536 = (c2 + c3) + 256 * (c3 + c4) + 65536 * (c4 + c5) + 16777216 * (c5 + c6) + 4294967296 * (c6 + c7) + 1099511627776 * c7 := by omega
  rw [d2, hy] at hz
  clear d2 d1
  have d3 : z / 4294967296 = (c4 + c5 + c6 + c7) + 256 * (c5 + c6 + c7) + 65536 * (c6 + c7) + 16777216 * c7 := by omega
  rw [d3, hz] at hu
  clear d3
  refine ⟨by omega, by omega, by omega, ?_⟩
  clear hy hx hz
  omega
/-- OnesCount64, as it is written. -/
theorem ones (x y z u : Nat) (h : x < 2 ^ 64) (hy : y = S3 (S2 (S1 x)) + S3 (S2 (S1 x)) / 256) (hz : z = y + y / 65536) (hu : u = z + z / 4294967296) :
    y < 2 ^ 63 ∧ z < 2 ^ 63 ∧ u < 2 ^ 63 ∧ u % 128 = pc 64 x := by
  have e : S3 (S2 (S1 x)) = ofB ((bytes8 x).map (pc 8)) := by
    rw [← S_all _ (by simp [bytes8]) (bits_le x), ofB_bytes8 x h]
  rw [e] at hy
  have hb := bits_le x
  have := fold8 _ _ _ _ _ _ _ _ (pc8_le _ (hb _ (by simp [bytes8]))) (pc8_le (x / 256 % 256) (by omega)) (pc8_le (x / 65536 % 256) (by omega)) (pc8_le (x / 16777216 % 256) (by omega))
    (pc8_le (x / 4294967296 % 256) (by omega)) (pc8_le (x / 1099511627776 % 256) (by omega)) (pc8_le (x / 281474976710656 % 256) (by omega)) (pc8_le (x / 72057594037927936 % 256) (by omega)) _ y z u rfl hy hz hu
  refine ⟨this.1, this.2.1, this.2.2.1, ?_⟩
  rw [this.2.2.2, pc64]
  simp only [bytes8, List.map_cons, List.map_nil, List.sum_cons, List.sum_nil]
  omega
end Go.Proofs.YtnnoahoepljejaaDoor.Pop
