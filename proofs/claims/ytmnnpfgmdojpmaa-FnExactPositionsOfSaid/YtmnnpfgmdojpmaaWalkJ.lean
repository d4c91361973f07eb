/-
  The walks of the laws' helpers on slices of ints: eqIntS, markIntS, heldIntS.
-/
import Derived.Test.YtmnnpfgmdojpmaaOwn
import Derived.BigQuiet
import Derived.Deep.QuietTactic
import Derived.WalkSpells
import Derived.WalkLawsBesides
import Derived.Lib.Hide
namespace Go.Proofs.Ytmnnpfgmdojpmaa
open Go.RowKit
set_option linter.unusedVariables false

theorem eqIntS_nil (a b : Option Addr) (c d : Nat) (w : World) :
    Calls Try.prog 21 #[.slice a 0 c, .slice b 0 d] w fun e w' => e = .returned (.bool true) ∧ Below w.heap.size w w' := by
  go_enter Try.func21, Try.ntmps21
  go_wp2_with fail
  refine wp_loop_rounds 1 ?_
  rw [rounds_succ]
  go_wp2
  go_ret
  exact ⟨rfl, Below.refl _ _⟩

set_option maxHeartbeats 400000 in
theorem eqIntS_pos (g g' cap cap' n : Nat) (f : Nat → Int) (w : World) (hn : n ≤ 9223372036854775807) (h1 : ∀ j, j < n → w.cell? ⟨g, j, none⟩ = some (.int .i64 (f j))) (h2 : ∀ j, j < n → w.cell? ⟨g', j, none⟩ = some (.int .i64 (f j))) :
    Calls Try.prog 21 #[.slice (some ⟨g, 0, none⟩) n cap, .slice (some ⟨g', 0, none⟩) n cap'] w fun e w' => e = .returned (.bool true) ∧ Below w.heap.size w w' := by
  have H1 := Lib.hid h1
  have H2 := Lib.hid h2
  clear h1 h2
  go_enter Try.func21, Try.ntmps21
  go_wp2_with fail
  go_loopw [5] (fun i wr => ∃ k m : Nat, k ≤ n ∧ i = .int .i64 k ∧ wr = w.drewN m) (fun i _ => n - (intOf i).toNat)
  case atStart => exact ⟨0, 0, by omega, rfl, rfl⟩
  case round =>
    obtain ⟨k, m, hk, rfl, rfl⟩ := hrel
    by_cases hlt : k < n
    · have c1 := H1.out k hlt
      have c2 := H2.out k hlt
      go_wp2
      go_quiet (fail)
      go_wp2
      go_roundw
      case rel => exact ⟨k + 1, _, by omega, by go_num, rfl⟩
      case measure => simp [intOf]; omega
    · go_wp2
      go_ret
      exact ⟨rfl, Joins.below_draws _ _ _⟩

theorem eqIntS_same (xs : List Int) (a b : Value) (A B : Nat) (w : World) (h1 : RowI w A a xs) (h2 : RowI w B b xs) :
    Calls Try.prog 21 #[a, b] w fun e w' => e = .returned (.bool true) ∧ Below w.heap.size w w' := by
  rcases h1.forms with ⟨rfl, p, c, rfl⟩ | ⟨hx, g, c, rfl, _, _, hl⟩
  · rcases h2.forms with ⟨_, q, d, rfl⟩ | ⟨hx, _⟩
    · exact eqIntS_nil p q c d w
    · simp at hx
  · rcases h2.forms with ⟨rfl, _⟩ | ⟨_, g', d, rfl, _⟩
    · simp at hx
    · exact eqIntS_pos g g' c d xs.length (fun j => xs[j]?.getD 0) w hl (fun j hj => h1.at j hj) (fun j hj => h2.at j hj)

theorem heldIntS_nil (a : Option Addr) (c K : Nat) (w : World) :
    Calls Try.prog 23 #[.slice a 0 c, .int .i64 K] w fun e w' => e = .returned (.int .i64 K) ∧ w' = w := by
  go_enter Try.func23, Try.ntmps23
  go_wp2_with fail
  refine wp_loop_rounds 1 ?_
  rw [rounds_succ]
  go_wp2
  go_ret
  exact ⟨rfl, rfl⟩

set_option maxHeartbeats 400000 in
theorem heldIntS_pos (g cap n K : Nat) (w : World) (hn : n ≤ 1152921504606846976) (hK : K ≤ 1152921504606846976) (h1 : ∀ j, j < n → w.cell? ⟨g, j, none⟩ = some (.int .i64 ((K : Int) + j))) :
    Calls Try.prog 23 #[.slice (some ⟨g, 0, none⟩) n cap, .int .i64 K] w fun e w' => e = .returned (.int .i64 ((K : Int) + n)) ∧ w' = w := by
  have H1 := Lib.hid h1
  clear h1
  go_enter Try.func23, Try.ntmps23
  go_wp2_with fail
  go_loop [1, 5] (fun q i => ∃ k : Nat, k ≤ n ∧ i = .int .i64 k ∧ q = .int .i64 ((K : Int) + k)) (fun _ i => n - (intOf i).toNat)
  case atStart => exact ⟨0, by omega, rfl, by simp⟩
  case round =>
    obtain ⟨k, hk, rfl, rfl⟩ := hrel
    by_cases hlt : k < n
    · have c1 := H1.out k hlt
      go_wp2
      go_round
      case rel => exact ⟨k + 1, by omega, by go_num, by go_num⟩
      case measure => simp [intOf]; omega
    · have hge : n ≤ k := by omega
      go_wp2
      obtain rfl : k = n := by omega
      go_ret
      exact ⟨rfl, rfl⟩

theorem heldIntS_any (v : Value) (B n K : Nat) (w : World) (hn : n ≤ 1152921504606846976) (hK : K ≤ 1152921504606846976) (h : RowI w B v (marks K n)) :
    Calls Try.prog 23 #[v, .int .i64 K] w fun e w' => e = .returned (.int .i64 ((K : Int) + n)) ∧ w' = w := by
  have hl := marks_length n K
  rcases h.forms with ⟨hx, p, c, rfl⟩ | ⟨hx, g, c, rfl, _⟩
  · have h0 : n = 0 := by rw [← hl, hx]; rfl
    subst h0
    simpa using heldIntS_nil p c K w
  · rw [hl]
    exact heldIntS_pos g c n K w hn hK fun j hj => by
      have := h.at j (by rw [hl]; exact hj)
      rw [marks_get n K j hj] at this
      exact this

/-- What marking leaves: v holds the marks, all else is as it was. -/
def Marked (w : World) (B : Nat) (v : Value) (K n : Nat) (e : Ending) (w' : World) : Prop := e = .returned (.int .i64 ((K : Int) + n)) ∧ RowI w' B v (marks K n) ∧ w.grownBy w' v.ownBlock

theorem markIntS_nil (a : Option Addr) (c K : Nat) (w : World) :
    Calls Try.prog 22 #[.slice a 0 c, .int .i64 K] w fun e w' => e = .returned (.int .i64 K) ∧ w' = w := by
  go_enter Try.func22, Try.ntmps22
  go_wp2_with fail
  refine wp_loop_rounds 1 ?_
  rw [rounds_succ]
  go_wp2
  go_ret
  exact ⟨rfl, rfl⟩

structure MarkRel (w : World) (B g cap K : Nat) (xs : List Int) (k : Nat) (wr : World) : Prop where
  row : RowI wr B (.slice (some ⟨g, 0, none⟩) xs.length cap) (marked K k xs)
  gr : w.grownBy wr (some g)

theorem grown_trans {a b c : World} {row : Option Nat} (h : a.grownBy b row) (k : b.grownBy c row) : a.grownBy c row :=
  ⟨k.os.trans h.os, k.tape.trans h.tape, k.output.trans h.output, Nat.le_trans h.size k.size, fun i hi hne => (k.block i (Nat.lt_of_lt_of_le hi h.size) hne).trans (h.block i hi hne)⟩

theorem MarkRel.step {w wr : World} {B g cap K k : Nat} {xs : List Int} (h : MarkRel w B g cap K xs k wr) (hk : k < xs.length) :
    MarkRel w B g cap K xs (k + 1) (wr.setCell ⟨g, k, none⟩ (.int .i64 ((K : Int) + k))) := by
  have := h.row.set (marked_length K k xs (by omega)) k ((K : Int) + k)
  rw [marked_step K k xs hk] at this
  exact ⟨this.1, grown_trans h.gr this.2⟩

set_option maxHeartbeats 400000 in
theorem markIntS_pos (g cap K B : Nat) (xs : List Int) (w : World) (hn : xs.length ≤ 1152921504606846976) (hK : K ≤ 1152921504606846976) (h : RowI w B (.slice (some ⟨g, 0, none⟩) xs.length cap) xs) :
    Calls Try.prog 22 #[.slice (some ⟨g, 0, none⟩) xs.length cap, .int .i64 K] w (Marked w B (.slice (some ⟨g, 0, none⟩) xs.length cap) K xs.length) := by
  go_enter Try.func22, Try.ntmps22
  go_wp2_with fail
  go_loopw [1, 5] (fun q i wr => ∃ k : Nat, k ≤ xs.length ∧ i = .int .i64 k ∧ q = .int .i64 ((K : Int) + k) ∧ MarkRel w B g cap K xs k wr) (fun _ i _ => xs.length - (intOf i).toNat)
  case atStart => exact ⟨0, by omega, rfl, by simp, ⟨by simpa [marked, marks] using h, World.grownBy.refl _ _⟩⟩
  case round =>
    obtain ⟨k, hk, rfl, rfl, hR⟩ := hrel
    by_cases hlt : k < xs.length
    · have hml := marked_length K k xs hk
      have hr := hR.row
      rw [← hml] at hr
      have c1 := hr.at k (by omega)
      have f1 := hr.free k
      clear hr hml
      go_wp2
      go_roundw
      case rel => exact ⟨k + 1, by omega, by go_num, by go_num, hR.step hlt⟩
      case measure => simp [intOf]; omega
    · have hge : xs.length ≤ k := by omega
      go_wp2
      have hk2 : k = xs.length := by omega
      have h2 := hR.row
      rw [hk2, marked_all] at h2
      go_ret
      exact ⟨by rw [hk2]; rfl, h2, hR.gr⟩

theorem markIntS_any (v : Value) (B K : Nat) (xs : List Int) (w : World) (hn : xs.length ≤ 1152921504606846976) (hK : K ≤ 1152921504606846976) (h : RowI w B v xs) :
    Calls Try.prog 22 #[v, .int .i64 K] w (Marked w B v K xs.length) := by
  rcases h.forms with ⟨rfl, p, c, rfl⟩ | ⟨hx, g, c, rfl, _⟩
  · refine (markIntS_nil p c K w).mono ?_
    rintro e w' ⟨rfl, hw⟩
    subst hw
    exact ⟨by simp, by simpa [marks] using h, World.grownBy.refl _ _⟩
  · exact markIntS_pos g c K B xs w hn hK h

theorem mark1 (v : Value) (B : Nat) (xs : List Int) (w : World) (hn : xs.length ≤ 1152921504606846976) (h : RowI w B v xs) :
    Calls Try.prog 22 #[v, .int .i64 1] w fun e w' => e = .returned (.int .i64 (1 + (xs.length : Int))) ∧ RowI w' B v (marks 1 xs.length) ∧ w.grownBy w' v.ownBlock :=
  markIntS_any v B 1 xs w hn (by decide) h
theorem held1 (v : Value) (B n : Nat) (w : World) (hn : n ≤ 1152921504606846976) (h : RowI w B v (marks 1 n)) :
    Calls Try.prog 23 #[v, .int .i64 1] w fun e w' => e = .returned (.int .i64 (1 + (n : Int))) ∧ w' = w :=
  heldIntS_any v B n 1 w hn (by decide) h

/-- A block of three numbers (a struct that was laid in a variable). -/
structure BoxAt (n : Nat) (w : World) (a h s : Int) : Prop where
  c0 : w.cell? ⟨n, 0, none⟩ = some (.int .i64 a)
  c1 : w.cell? ⟨n, 1, none⟩ = some (.int .i64 h)
  c2 : w.cell? ⟨n, 2, none⟩ = some (.int .i64 s)
  sz : n < w.heap.size
theorem BoxAt.new (w : World) (a h s : Int) (t : TypeId) : BoxAt w.heap.size (w.alloc (.cells #[.int .i64 a, .int .i64 h, .int .i64 s] t)) a h s :=
  ⟨by rw [World.cell?_alloc_at _ _ _ _ rfl]; rfl, by rw [World.cell?_alloc_at _ _ _ _ rfl]; rfl, by rw [World.cell?_alloc_at _ _ _ _ rfl]; rfl, by simp⟩
theorem BoxAt.below {n : Nat} {w w' : World} {a h s : Int} (b : BoxAt n w a h s) (hb : Below w.heap.size w w') : BoxAt n w' a h s :=
  ⟨(hb.cell (p := ⟨n, 0, none⟩) b.sz).trans b.c0, (hb.cell (p := ⟨n, 1, none⟩) b.sz).trans b.c1, (hb.cell (p := ⟨n, 2, none⟩) b.sz).trans b.c2, Nat.lt_of_lt_of_le b.sz hb.size⟩
theorem BoxAt.grown {n : Nat} {w w' : World} {a h s : Int} {row : Option Nat} (b : BoxAt n w a h s) (hg : w.grownBy w' row) (hne : some n ≠ row) : BoxAt n w' a h s :=
  ⟨hg.cell b.c0 hne, hg.cell b.c1 hne, hg.cell b.c2 hne, Nat.lt_of_lt_of_le b.sz hg.size⟩
theorem Below.mark {W w w' : World} {B : Nat} {v : Value} {xs : List Int} (h : Below W.heap.size W w) (hr : RowI w B v xs) (hB : W.heap.size ≤ B) (hg : w.grownBy w' v.ownBlock) : Below W.heap.size W w' :=
  h.grown hg h.size (fun k hk => by have := (hr.lt k hk).1; omega)
/-- Two rows, one made before the other. -/
theorem RowI.apart {w0 w1 w2 : World} {B B' : Nat} {a b : Value} {xs ys : List Int} (h : RowI w0 B a xs) (hr : RowI w1 B a xs) (k : RowI w1 B' b ys) (hB : w0.heap.size ≤ B') (hg : w1.grownBy w2 b.ownBlock) : RowI w2 B a xs :=
  hr.keptBut hg (fun i hi e => by have h1 := (h.lt i hi).2; have h2 := (k.lt i e.symm).1; omega)
theorem box_apart {n : Nat} {w : World} {B : Nat} {v : Value} {xs : List Int} (h : RowI w B v xs) (hB : n < B) : some n ≠ v.ownBlock := fun e => by
  have := (h.lt n e.symm).1; omega
end Go.Proofs.Ytmnnpfgmdojpmaa
