/-
  A slice of bytes that is handed in, and the cursor over it.
-/
import Derived.Test.YtnnoahoepljejaaDoorOwnU
import Derived.Test.YtnnoahoepljejaaDoorBits
import Derived.Deep.Slices
import Derived.ChangeSame
import Derived.OpenShut
namespace Go.Proofs.YtnnoahoepljejaaDoor
open Go.RowKit
open Go.ChangeShapes Go.WideShapes Go.Deep
set_option linter.unusedVariables false

def IsCode (w : World) (a : Option Addr) (len : Nat) : Prop :=
  len ≤ maxLen ∧ (len = 0 ∨ ∃ ad, a = some ad ∧ ∀ i, i < len → ∃ x : Int, 0 ≤ x ∧ x ≤ 255 ∧ w.cell? (ad.add i) = some (.int .u8 x))
theorem code_block (ad : Addr) (n : Nat) : (ad.add n).block = ad.block := by unfold Addr.add; split <;> rfl
theorem isCode_of_trod {H : Type} {enc : TypeId × Value → H} {P : Program} {w : World} {base : Nat} {spare : Nat → Bool} {held : Bool} {t e : TypeId} {a : Option Addr} {len cap : Nat} {d : DataW H} {p : List MemPlace}
    (ht : P.underlying t = some (.slice e)) (he : P.underlying e = some (.int .u8)) (hC : P.cellsOf e = 1) (h : DataW.Trod enc P w base spare held t (.slice a len cap) d p) : IsCode w a len := by
  obtain ⟨fuel, hf⟩ := h
  rcases open_slice1 ht hC hf with h0 | ⟨ad, len', cap', m, n, V, D, Pl, hcs, hb, hl, hm, hmm, hx, hi⟩
  · simp [Value.cells] at h0
    exact ⟨by rw [h0.1.2.1]; omega, .inl h0.1.2.1⟩
  · simp [Value.cells] at hcs
    obtain ⟨rfl, rfl, rfl⟩ := hcs
    refine ⟨by omega, .inr ⟨ad, rfl, fun i hlt => ?_⟩⟩
    obtain ⟨h1, h2⟩ := hi i (by rw [hmm]; split <;> omega)
    obtain ⟨x, e0, _, hw⟩ := DataW.trod_int he h2
    simp at e0
    have := bounds_u8 hw
    exact ⟨x, this.1, this.2, by rw [h1, e0]⟩
theorem IsCode.grown {w w' : World} {a : Option Addr} {len : Nat} {row : Option Nat} (h : IsCode w a len) (hg : w.grownBy w' row) (hne : len = 0 ∨ ∀ ad, a = some ad → some ad.block ≠ row) : IsCode w' a len := by
  obtain ⟨h2, h3⟩ := h
  refine ⟨h2, ?_⟩
  rcases h3 with h3 | ⟨ad, ha, h3⟩
  · exact .inl h3
  · rcases hne with h0 | hne
    · exact .inl h0
    exact .inr ⟨ad, ha, fun i hi => by
      obtain ⟨x, x0, x1, hx⟩ := h3 i hi
      exact ⟨x, x0, x1, hg.cell hx (by rw [code_block]; exact hne ad ha)⟩⟩
theorem IsCode.kept {w w' : World} {a : Option Addr} {len : Nat} (h : IsCode w a len) (hb : Below w.heap.size w w') : IsCode w' a len := h.grown (row := none) (grown_of_below hb) (.inr fun _ _ e => by cases e)

/-- The cursor: a block n of its own with the bytes, the place, the mixed number. -/
structure Cur (n : Nat) (ad : Option Addr) (len cap : Nat) (w : World) : Prop where
  code : w.cell? ⟨n, 0, none⟩ = some (.slice ad len cap)
  pos : ∃ I : Nat, I ≤ len ∧ w.cell? ⟨n, 1, none⟩ = some (.int .i64 I)
  mix : ∃ H : Int, w.cell? ⟨n, 2, none⟩ = some (.int .i64 H)
  f1 : w.frozen? ⟨n, 1, none⟩ = false
  f2 : w.frozen? ⟨n, 2, none⟩ = false
  bytes : IsCode w ad len
  far : len = 0 ∨ ∀ a, ad = some a → a.block ≠ n
  small : len ≤ 1048576
theorem IsCode.old {w : World} {a : Option Addr} {len : Nat} (h : IsCode w a len) : len = 0 ∨ ∀ ad, a = some ad → ad.block < w.heap.size := by
  rcases h.2 with h0 | ⟨ad, rfl, hat⟩
  · exact .inl h0
  · by_cases h0 : len = 0
    · exact .inl h0
    · refine .inr fun ad2 e => ?_
      cases e
      obtain ⟨x, _, _, hx⟩ := hat 0 (by omega)
      have := World.block_lt_of_cell? w _ hx
      rwa [code_block] at this
theorem Cur.sz {n : Nat} {ad : Option Addr} {len cap : Nat} {w : World} (h : Cur n ad len cap w) : n < w.heap.size := World.block_lt_of_cell? w ⟨n, 0, none⟩ h.code
theorem Cur.kept {n : Nat} {ad : Option Addr} {len cap : Nat} {w w' : World} (h : Cur n ad len cap w) (hb : Below w.heap.size w w') : Cur n ad len cap w' := by
  have hz := h.sz
  have hc : ∀ o, w'.cell? ⟨n, o, none⟩ = w.cell? ⟨n, o, none⟩ := fun o => hb.cell (p := ⟨n, o, none⟩) hz
  have hf : ∀ o, w'.frozen? ⟨n, o, none⟩ = w.frozen? ⟨n, o, none⟩ := fun o => hb.frozen (p := ⟨n, o, none⟩) hz
  exact ⟨by rw [hc]; exact h.code, by rw [hc]; exact h.pos, by rw [hc]; exact h.mix, by rw [hf]; exact h.f1, by rw [hf]; exact h.f2, h.bytes.kept hb, h.far, h.small⟩
theorem set_grown (w : World) (n o : Nat) (v : Value) : w.grownBy (w.setCell ⟨n, o, none⟩ v) (some n) := by
  refine ⟨rfl, rfl, rfl, by simp, fun k hk hne => ?_⟩
  exact Below.heap_setCell _ _ _ _ (fun e => hne (by rw [e]))
/-- Only block n may have turned, and it still is the cursor. -/
structure Drew (n : Nat) (ad : Option Addr) (len cap : Nat) (w w' : World) : Prop where
  cur : Cur n ad len cap w'
  gr : w.grownBy w' (some n)
theorem Cur.setMix {n : Nat} {ad : Option Addr} {len cap : Nat} {w : World} (h : Cur n ad len cap w) (H : Int) : Cur n ad len cap (w.setCell ⟨n, 2, none⟩ (.int .i64 H)) := by
  have hg := set_grown w n 2 (.int .i64 H)
  obtain ⟨I, hI, hp⟩ := h.pos
  obtain ⟨H0, hm⟩ := h.mix
  refine ⟨?_, ⟨I, hI, ?_⟩, ⟨H, ?_⟩, ?_, ?_, h.bytes.grown hg (h.far.imp id fun k a ha e => k a ha (by simpa using e)), h.far, h.small⟩
  · exact (World.cell?_setCell_other _ _ _ _ (by simp)).trans h.code
  · exact (World.cell?_setCell_other _ _ _ _ (by simp)).trans hp
  · exact World.cell?_setCell_same _ _ _ hm
  · simpa using h.f1
  · simpa using h.f2
theorem Cur.setPos {n : Nat} {ad : Option Addr} {len cap : Nat} {w : World} (h : Cur n ad len cap w) (I : Nat) (hI : I ≤ len) : Cur n ad len cap (w.setCell ⟨n, 1, none⟩ (.int .i64 I)) := by
  have hg := set_grown w n 1 (.int .i64 I)
  obtain ⟨I0, _, hp⟩ := h.pos
  obtain ⟨H0, hm⟩ := h.mix
  refine ⟨?_, ⟨I, hI, ?_⟩, ⟨H0, ?_⟩, ?_, ?_, h.bytes.grown hg (h.far.imp id fun k a ha e => k a ha (by simpa using e)), h.far, h.small⟩
  · exact (World.cell?_setCell_other _ _ _ _ (by simp)).trans h.code
  · exact World.cell?_setCell_same _ _ _ hp
  · exact (World.cell?_setCell_other _ _ _ _ (by simp)).trans hm
  · simpa using h.f1
  · simpa using h.f2
theorem i64_mask (x : Int) (m : Nat) (hm : m < 2 ^ 63) : ∃ r : Nat, r ≤ m ∧ bits .and .i64 x (m : Int) = (r : Int) := by
  have hle : (BitVec.ofInt 64 x).toNat &&& m ≤ m := Nat.and_le_right
  refine ⟨(BitVec.ofInt 64 x).toNat &&& m, hle, ?_⟩
  show IntKind.i64.wrap ((BitVec.ofInt 64 x &&& BitVec.ofInt 64 (m : Int)).toNat : Int) = _
  rw [BitVec.toNat_and, Bit.ofInt_i64 m hm, Bit.i64_wrap _ (by omega) (by omega)]
end Go.Proofs.YtnnoahoepljejaaDoor
