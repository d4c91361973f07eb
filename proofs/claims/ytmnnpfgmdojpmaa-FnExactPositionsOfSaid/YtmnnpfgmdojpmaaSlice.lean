/-
  A slice of lines that is handed in: its cells.
-/
import Derived.Test.YtmnnpfgmdojpmaaWalkR
import Derived.Deep.Slices
import Derived.Deep.Fields
import Derived.ChangeSame
import Derived.OpenShut
namespace Go.Proofs.Ytmnnpfgmdojpmaa
open Go.RowKit
open Peg
open Go.ChangeShapes Go.WideShapes Go.Deep
set_option linter.unusedVariables false

section
variable {H : Type} {enc : TypeId × Value → H} {P : Program} {w : World} {base : Nat} {spare : Nat → Bool} {held : Bool}
theorem open_slice_fields {t e : TypeId} {fs : Array Field} {fuel : Nat} {cs : List Value} {x : DataW H × List MemPlace} (ht : P.underlying t = some (.slice e)) (he : P.underlying e = some (.struct fs))
    (hone : oneCellFields P fs = true) (hC : P.cellsOf e = fs.size) (h : DataW.trod enc P w base spare held fuel t cs = some x) :
    (cs = [.slice none 0 0]) ∨
    ∃ (a : Addr) (len cap : Nat), cs = [.slice (some a) len cap] ∧ len ≤ cap ∧ cap ≤ maxLen ∧
      ∀ i, i < len → ∃ (n : Nat), 
        ∀ (j : Nat) (f : Field), fs[j]? = some f → ∃ (v : Value) (y : DataW H × List MemPlace), w.cell? (a.add (i * fs.size + j)) = some v ∧ DataW.trod enc P w base spare held n f.type [v] = some y := by
  rcases open_slice ht h with h0 | ⟨a, len, cap, m, n, D, Pl, hcs, hb, hl, hm, hmm, hx, hi⟩
  · exact .inl h0.1
  · refine .inr ⟨a, len, cap, hcs, hl, hm, fun i him => ?_⟩
    obtain ⟨cs', hc, ht'⟩ := hi i (by rw [hmm]; split <;> omega)
    rw [hC] at hc
    obtain ⟨ys, n', hn', hy, hlen, hyl, hf⟩ := DataW.trod_struct he ht'
    obtain ⟨_, hcl, hat⟩ := World.cells?_some hc
    refine ⟨n', fun j f hj => ?_⟩
    obtain ⟨ho, hk⟩ := hone_of hone j f hj
    have hjl : j < fs.size := (Array.getElem?_eq_some_iff.1 hj).1
    have hcell := hat j hjl
    have hv : cs'[j]? = some (cs'[j]'(by omega)) := List.getElem?_eq_getElem (by omega)
    have h1 := hf j f hj
    rw [ho, hk] at h1
    have hone' : (cs'.drop j).take 1 = [cs'[j]'(by omega)] := by
      rw [List.drop_eq_getElem_cons (by omega)]
      rfl
    rw [hone'] at h1
    have hys : ys[j]? = some (ys[j]'(by omega)) := List.getElem?_eq_getElem (by omega)
    refine ⟨_, _, ?_, h1.trans hys⟩
    rw [← Go.Deep.add_add, hcell, hv]
end

def LineAt (w : World) (ad : Addr) (i : Nat) (l : Ln) : Prop := w.cell? (ad.add (i * 3)) = some (.int .i64 l.a) ∧ w.cell? (ad.add (i * 3 + 1)) = some (.int .i64 l.b) ∧ w.cell? (ad.add (i * 3 + 2)) = some (.int .i64 l.c)
/-- The lines that a slice holds. -/
def IsLines (w : World) (a : Option Addr) (len : Nat) (ls : List Ln) : Prop :=
  ls.length = len ∧ len ≤ maxLen ∧ (len = 0 ∨ ∃ ad, a = some ad ∧ ∀ i l, ls[i]? = some l → LineAt w ad i l)
theorem IsLines.kept {w w' : World} {a : Option Addr} {len : Nat} {ls : List Ln} (h : IsLines w a len ls) (hb : Below w.heap.size w w') : IsLines w' a len ls := by
  obtain ⟨h1, h2, h3⟩ := h
  refine ⟨h1, h2, ?_⟩
  rcases h3 with h3 | ⟨ad, ha, h3⟩
  · exact .inl h3
  · refine .inr ⟨ad, ha, fun i l hl => ?_⟩
    obtain ⟨c0, c1, c2⟩ := h3 i l hl
    exact ⟨(hb.cell (World.block_lt_of_cell? w _ c0)).trans c0, (hb.cell (World.block_lt_of_cell? w _ c1)).trans c1, (hb.cell (World.block_lt_of_cell? w _ c2)).trans c2⟩
theorem lines_list {w : World} {ad : Addr} : ∀ n : Nat, (∀ i, i < n → ∃ l, LineAt w ad i l) → ∃ ls : List Ln, ls.length = n ∧ ∀ i l, ls[i]? = some l → LineAt w ad i l
  | 0, _ => ⟨[], rfl, fun i l h => by simp at h⟩
  | n + 1, h => by
    obtain ⟨ls, hl, hi⟩ := lines_list n (fun i hi => h i (by omega))
    obtain ⟨l, hn⟩ := h n (by omega)
    refine ⟨ls ++ [l], by simp [hl], fun i m hm => ?_⟩
    by_cases hlt : i < n
    · exact hi i m (by rw [List.getElem?_append_left (by omega)] at hm; exact hm)
    · have hin : i = n := by
        have := (List.getElem?_eq_some_iff.1 hm).1
        simp [hl] at this; omega
      subst hin
      rw [List.getElem?_append_right (by omega)] at hm
      simp [hl] at hm
      exact hm ▸ hn
theorem isLines_of_trod {H : Type} {enc : TypeId × Value → H} {P : Program} {w : World} {base : Nat} {spare : Nat → Bool} {held : Bool} {t e ti : TypeId} {f0 f1 f2 : Field} {a : Option Addr} {len cap : Nat} {d : DataW H} {p : List MemPlace}
    (ht : P.underlying t = some (.slice e)) (he : P.underlying e = some (.struct #[f0, f1, f2])) (hi : P.underlying ti = some (.int .i64)) (h0 : f0.type = ti) (h1 : f1.type = ti) (h2 : f2.type = ti)
    (hone : oneCellFields P #[f0, f1, f2] = true) (hC : P.cellsOf e = 3) (h : DataW.Trod enc P w base spare held t (.slice a len cap) d p) : ∃ ls, IsLines w a len ls := by
  obtain ⟨fuel, hf⟩ := h
  rcases open_slice_fields ht he hone hC hf with h0 | ⟨ad, len', cap', hcs, hlc, hcm, hat⟩
  · simp [Value.cells] at h0
    exact ⟨[], by rw [h0.2.1]; rfl, by rw [h0.2.1]; omega, .inl h0.2.1⟩
  · simp [Value.cells] at hcs
    obtain ⟨rfl, rfl, rfl⟩ := hcs
    obtain ⟨ls, hl, hls⟩ := lines_list (w := w) (ad := ad) len (fun i hi2 => by
      obtain ⟨n, hj⟩ := hat i hi2
      obtain ⟨v0, y0, c0, t0⟩ := hj 0 f0 rfl
      obtain ⟨v1, y1, c1, t1⟩ := hj 1 f1 rfl
      obtain ⟨v2, y2, c2, t2⟩ := hj 2 f2 rfl
      rw [h0] at t0
      rw [h1] at t1
      rw [h2] at t2
      obtain ⟨a0, e0, _, _⟩ := DataW.trod_int hi t0
      obtain ⟨a1, e1, _, _⟩ := DataW.trod_int hi t1
      obtain ⟨a2, e2, _, _⟩ := DataW.trod_int hi t2
      simp at e0 e1 e2
      subst e0 e1 e2
      exact ⟨⟨a0, a1, a2⟩, c0, c1, c2⟩)
    exact ⟨ls, hl, by omega, .inr ⟨ad, rfl, hls⟩⟩
end Go.Proofs.Ytmnnpfgmdojpmaa
