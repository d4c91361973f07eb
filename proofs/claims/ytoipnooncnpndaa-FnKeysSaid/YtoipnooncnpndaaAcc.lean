/-
  A slice that grows by append in a loop, while other memory stands: what the loop's relation carries.
-/
import Derived.Test.YtoipnooncnpndaaOwnL
import Derived.Test.YtoipnooncnpndaaWalkJ
import Derived.Maps.AppendAt
namespace Go.Proofs.Ytoipnooncnpndaa
open Go.RowKit
open Peg

/-- Since ws only block b0 may have turned, and v lies there or in a block that is newer than ws. -/
structure Acc (ws : World) (b0 : Nat) (v : Value) (wr : World) : Prop where
  gr : ws.grownBy wr (some b0)
  far : ∀ k, v.ownBlock = some k → k = b0 ∨ ws.heap.size ≤ k

theorem Acc.start (ws : World) (b0 : Nat) (v : Value) (h : ∀ k, v.ownBlock = some k → k = b0) : Acc ws b0 v ws := ⟨World.grownBy.refl _ _, fun k hk => .inl (h k hk)⟩
theorem grown_any {a b : World} (h : Below a.heap.size a b) (row : Option Nat) : a.grownBy b row := ⟨h.os, h.tape, h.output, h.size, fun k hk _ => h.block k hk⟩
theorem Acc.below {ws wr w1 : World} {b0 : Nat} {v : Value} (h : Acc ws b0 v wr) (hb : Below wr.heap.size wr w1) : Acc ws b0 v w1 :=
  ⟨grown_trans h.gr (grown_any hb _), h.far⟩
theorem Acc.drew {ws wr : World} {b0 : Nat} {v : Value} (h : Acc ws b0 v wr) : Acc ws b0 v wr.drew := ⟨⟨h.gr.os, h.gr.tape, h.gr.output, h.gr.size, h.gr.block⟩, h.far⟩
theorem Acc.append {ws wr w1 : World} {b0 : Nat} {v v' : Value} {o : Obj} (h : Acc ws b0 v wr) (hg : (wr.alloc o).grownBy w1 v.ownBlock) (hat : v'.ownBlock = v.ownBlock ∨ v'.ownBlock = some (wr.heap.size + 1)) : Acc ws b0 v' w1 := by
  refine ⟨⟨hg.os.trans h.gr.os, hg.tape.trans h.gr.tape, hg.output.trans h.gr.output, ?_, fun k hk hne => ?_⟩, fun k hk => ?_⟩
  · have := h.gr.size; have := hg.size; simp at this; omega
  · have h1 := h.gr.size
    rw [hg.block k (by simp; omega) (fun e => ?_), Below.heap_alloc _ _ _ (by omega)]
    · exact h.gr.block k hk hne
    · rcases h.far k e.symm with rfl | h2
      · exact hne rfl
      · omega
  · rcases hat with e | e
    · exact h.far k (by rw [← e]; exact hk)
    · right
      rw [e] at hk
      have h1 := h.gr.size
      simp at hk; omega
theorem Acc.rowI {ws wr : World} {b0 B : Nat} {v u : Value} {xs : List Int} (h : Acc ws b0 v wr) (hr : RowI ws B u xs) (hne : ∀ k, u.ownBlock = some k → k ≠ b0) : RowI wr B u xs :=
  hr.keptBut h.gr (fun k hk e => hne k hk (by simpa using e))
theorem Acc.rowX {ws wr : World} {b0 B n : Nat} {v u : Value} {xs : List Int} (h : Acc ws b0 v wr) (hr : RowX ws B u n xs) (hne : ∀ k, u.ownBlock = some k → k ≠ b0) : RowX wr B u n xs :=
  hr.keptBut h.gr (fun k hk e => hne k hk (by simpa using e))
theorem Acc.box {ws wr : World} {b0 n : Nat} {v : Value} {a h s : Int} (hh : Acc ws b0 v wr) (b : BoxAt n ws a h s) (hne : n ≠ b0) : BoxAt n wr a h s :=
  b.grown hh.gr (by simpa using hne)
theorem Acc.ret {w ws wr : World} {b0 : Nat} {v : Value} (h : Acc ws b0 v wr) (hb : Below w.heap.size w ws) (h0 : w.heap.size ≤ b0) : Below w.heap.size w wr :=
  hb.grown h.gr hb.size (fun k hk => by simp at hk; omega)

theorem rowNilL (w : World) (B n : Nat) (hb : B ≤ w.heap.size) (hn : n = w.heap.size) : RowL (w.alloc (.cells #[] 38)) B (.slice (some ⟨n, 0, none⟩) 0 0) [] := by
  subst hn; exact World.ownsRow_made w #[] 0 hb (by decide) rfl
theorem cell_three (w : World) (a b c : Value) (t : TypeId) : ∀ j u, [a, b, c][j]? = some u → (w.alloc (.cells #[a, b, c] t)).cell? ((⟨w.heap.size, 0, none⟩ : Addr).add j) = some u := by
  intro j u hu
  have hadd : (⟨w.heap.size, 0, none⟩ : Addr).add j = ⟨w.heap.size, j, none⟩ := by unfold Addr.add; split <;> simp_all
  rw [hadd, World.cell?_alloc_at _ _ _ _ rfl]
  match j, hu with
  | 0, hu => simpa using hu
  | 1, hu => simpa using hu
  | 2, hu => simpa using hu
/-- Behind an append of one line. -/
theorem RowL.put {w1 : World} {B : Nat} {v' : Value} {ls : List Ln} {l : Ln}
    (hown : w1.ownsRow B 38 3 v' (ls.length + 1) ((flat ls).map (Value.int .i64) ++ [.int .i64 l.a, .int .i64 l.b, .int .i64 l.c])) : RowL w1 B v' (ls ++ [l]) := by
  unfold RowL RowX
  rw [flat_append, List.length_append]
  simpa [flat] using hown
/-- Behind an append of one number. -/
theorem RowI.put {w1 : World} {B : Nat} {v' : Value} {xs : List Int} {x : Int}
    (hown : w1.ownsRow B 3 1 v' (xs.length + 1) (xs.map (Value.int .i64) ++ [.int .i64 x])) : RowI w1 B v' (xs ++ [x]) := by
  unfold RowI
  simpa using hown
end Go.Proofs.Ytoipnooncnpndaa
