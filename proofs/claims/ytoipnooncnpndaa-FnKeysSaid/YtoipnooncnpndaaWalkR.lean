/-
  The walks of DoJump, UndoJump, CanJump, CanUndo (impl and spec).
-/
import Derived.Test.YtoipnooncnpndaaWalkQ
namespace Go.Proofs.Ytoipnooncnpndaa
open Go.RowKit
open Peg
set_option linter.unusedVariables false

theorem cell_kept {w w1 : World} {n o : Nat} {v : Value} (h : w.cell? ⟨n, o, none⟩ = some v) (hb : Below w.heap.size w w1) : w1.cell? ⟨n, o, none⟩ = some v :=
  (hb.cell (p := ⟨n, o, none⟩) (World.block_lt_of_cell? w _ h)).trans h

theorem jumpFrom_t (P A B C : Nat) (hP : P < 2 ^ 49) (ha : A ≤ 48) (hb : B ≤ 48) (hc : C ≤ 48) (h : canJ P A B C = true) (w : World) :
    Calls Try.prog 72 #[.int .i64 P, .agg #[.int .i64 A, .int .i64 B, .int .i64 C]] w fun e w' => e = .returned (.tuple #[.int .i64 (jumpTo P A B C : Nat), .bool true]) ∧ Below w.heap.size w w' := by
  have := jumpFrom_any P A B C hP ha hb hc w
  rw [h] at this; exact this
theorem jumpFrom_f (P A B C : Nat) (hP : P < 2 ^ 49) (ha : A ≤ 48) (hb : B ≤ 48) (hc : C ≤ 48) (h : canJ P A B C = false) (w : World) :
    Calls Try.prog 72 #[.int .i64 P, .agg #[.int .i64 A, .int .i64 B, .int .i64 C]] w fun e w' => e = .returned (.tuple #[.int .i64 P, .bool false]) ∧ Below w.heap.size w w' := by
  have := jumpFrom_any P A B C hP ha hb hc w
  rw [h] at this; exact this

theorem undoFrom_t (P A B C : Nat) (hP : P < 2 ^ 49) (ha : A ≤ 48) (hb : B ≤ 48) (hc : C ≤ 48) (h : canU P A B C = true) (w : World) :
    Calls Try.prog 73 #[.int .i64 P, .agg #[.int .i64 A, .int .i64 B, .int .i64 C]] w fun e w' => e = .returned (.tuple #[.int .i64 (undoTo P A B C : Nat), .bool true]) ∧ Below w.heap.size w w' := by
  have := undoFrom_any P A B C hP ha hb hc w
  rw [h] at this; exact this
theorem undoFrom_f (P A B C : Nat) (hP : P < 2 ^ 49) (ha : A ≤ 48) (hb : B ≤ 48) (hc : C ≤ 48) (h : canU P A B C = false) (w : World) :
    Calls Try.prog 73 #[.int .i64 P, .agg #[.int .i64 A, .int .i64 B, .int .i64 C]] w fun e w' => e = .returned (.tuple #[.int .i64 P, .bool false]) ∧ Below w.heap.size w w' := by
  have := undoFrom_any P A B C hP ha hb hc w
  rw [h] at this; exact this

/-- A line of the list is one of the board's lines. -/
theorem isL_form {W H S : Nat} (ok : Ok W H S) {la lb lc : Int} (h : isL (linesL W H S) la lb lc = true) : ∃ A B C : Nat, la = A ∧ lb = B ∧ lc = C ∧ ∃ dx dy : Int, IsLn W H S A B C dx dy := by
  rw [linesL_ok ok] at h
  unfold isL at h
  cases hf : findL (linesF W H S) la lc with
  | none => rw [hf] at h; cases h
  | some m =>
    rw [hf] at h
    obtain ⟨h1, h2, h3⟩ := find_some hf
    obtain ⟨A, B, C, rfl, dx, dy, hI⟩ := linesF_form ok h3
    simp only [beq_iff_eq] at h
    exact ⟨A, B, C, h1.symm, h.symm, h2.symm, dx, dy, hI⟩
/-- All that a jump's numbers are, once board, position and line are good. -/
theorem jump_nat {a h s q la lb lc : Int} (h1 : pOk a h s q = true) (h2 : isL (linesL a h s) la lb lc = true) :
    ∃ W H S P A B C : Nat, a = W ∧ h = H ∧ s = S ∧ q = P ∧ la = A ∧ lb = B ∧ lc = C ∧ Ok W H S ∧ P < 2 ^ 49 ∧ A ≤ 48 ∧ B ≤ 48 ∧ C ≤ 48 ∧ P &&& S = P ∧ ∃ dx dy : Int, IsLn W H S A B C dx dy := by
  have hb : bOk a h s = true := by unfold pOk at h1; simp only [Bool.and_eq_true] at h1; exact h1.1
  obtain ⟨W, H, S, rfl, rfl, rfl, ok⟩ := (bOk_iff _ _ _).1 hb
  obtain ⟨P, rfl, hP⟩ := (pOk_iff ok q).1 h1
  obtain ⟨A, B, C, rfl, rfl, rfl, dx, dy, hI⟩ := isL_form ok h2
  have h49 := hI.lt49 ok
  exact ⟨W, H, S, P, A, B, C, rfl, rfl, rfl, rfl, rfl, rfl, rfl, ok, Nat.lt_of_le_of_lt (sub_le hP) ok.lt, h49.1, h49.2.1, h49.2.2, hP, dx, dy, hI⟩

/-- The outcome of a jump, in a tuple. -/
def RetJ (w : World) (o : Option Nat) (q : Int) (e : Ending) (w' : World) : Prop := e = .returned (.tuple #[.int .i64 (valO o q), .bool o.isSome]) ∧ Below w.heap.size w w'

set_option maxHeartbeats 400000 in
theorem DoJump_1 (a h s q la lb lc : Int) (hq : q < 2 ^ 63) (h1 : pOk a h s q = false) (w : World) :
    Calls Try.prog 37 #[.agg #[.int .i64 a, .int .i64 h, .int .i64 s], .int .i64 q, .agg #[.int .i64 la, .int .i64 lb, .int .i64 lc]] w fun e w' => e = .returned (.tuple #[.int .i64 q, .bool false]) ∧ Below w.heap.size w w' := by
  go_enter Try.func37, Try.ntmps37
  have X0 := BoxAt.new w a h s 26
  have X1 := BoxAt.new (w.alloc (.cells #[.int .i64 a, .int .i64 h, .int .i64 s] 26)) la lb lc 38
  have X0 := X0.below (below1 _ (.cells #[.int .i64 la, .int .i64 lb, .int .i64 lc] 38))
  obtain ⟨b00, b01, b02, bz0⟩ := X0
  obtain ⟨b10, b11, b12, bz1⟩ := X1
  clear bz0 bz1
  simp only [World.size_alloc] at b00 b01 b02 b10 b11 b12
  go_wp2_with fail
  refine (PositionOk_b _ _ _ _ _ (by omega) h1 _).mono ?_
  rintro e w1 ⟨rfl, hB1⟩
  replace b00 := cell_kept b00 hB1
  replace b01 := cell_kept b01 hB1
  replace b02 := cell_kept b02 hB1
  replace b10 := cell_kept b10 hB1
  replace b11 := cell_kept b11 hB1
  replace b12 := cell_kept b12 hB1
  go_wp2
  go_ret2
  exact ⟨rfl, ((Joins.below_alloc2 _ _ _).andThen hB1)⟩

set_option maxHeartbeats 400000 in
theorem DoJump_2 (a h s q la lb lc : Int) (hq : q < 2 ^ 63) (h1 : pOk a h s q = true) (h2 : isL (linesL a h s) la lb lc = false) (w : World) :
    Calls Try.prog 37 #[.agg #[.int .i64 a, .int .i64 h, .int .i64 s], .int .i64 q, .agg #[.int .i64 la, .int .i64 lb, .int .i64 lc]] w fun e w' => e = .returned (.tuple #[.int .i64 q, .bool false]) ∧ Below w.heap.size w w' := by
  have H2 := Lib.hid h2
  clear h2
  go_enter Try.func37, Try.ntmps37
  have X0 := BoxAt.new w a h s 26
  have X1 := BoxAt.new (w.alloc (.cells #[.int .i64 a, .int .i64 h, .int .i64 s] 26)) la lb lc 38
  have X0 := X0.below (below1 _ (.cells #[.int .i64 la, .int .i64 lb, .int .i64 lc] 38))
  obtain ⟨b00, b01, b02, bz0⟩ := X0
  obtain ⟨b10, b11, b12, bz1⟩ := X1
  clear bz0 bz1
  simp only [World.size_alloc] at b00 b01 b02 b10 b11 b12
  go_wp2_with fail
  refine (PositionOk_b _ _ _ _ _ (by omega) h1 _).mono ?_
  rintro e w1 ⟨rfl, hB1⟩
  replace b00 := cell_kept b00 hB1
  replace b01 := cell_kept b01 hB1
  replace b02 := cell_kept b02 hB1
  replace b10 := cell_kept b10 hB1
  replace b11 := cell_kept b11 hB1
  replace b12 := cell_kept b12 hB1
  go_wp2_with fail
  refine (isLine_b _ _ _ _ _ _ _ H2.out _).mono ?_
  rintro e w2 ⟨rfl, hB2⟩
  replace b00 := cell_kept b00 hB2
  replace b01 := cell_kept b01 hB2
  replace b02 := cell_kept b02 hB2
  replace b10 := cell_kept b10 hB2
  replace b11 := cell_kept b11 hB2
  replace b12 := cell_kept b12 hB2
  go_wp2
  go_ret2
  exact ⟨rfl, (((Joins.below_alloc2 _ _ _).andThen hB1).andThen hB2)⟩

set_option maxHeartbeats 400000 in
theorem DoJump_true (W H S P A B C : Nat) (hP : P < 2 ^ 49) (ha : A ≤ 48) (hb : B ≤ 48) (hc : C ≤ 48) (h1 : pOk W H S P = true) (h2 : isL (linesL W H S) A B C = true) (h3 : canJ P A B C = true) (w : World) :
    Calls Try.prog 37 #[.agg #[.int .i64 W, .int .i64 H, .int .i64 S], .int .i64 P, .agg #[.int .i64 A, .int .i64 B, .int .i64 C]] w fun e w' => e = .returned (.tuple #[.int .i64 (jumpTo P A B C : Nat), .bool true]) ∧ Below w.heap.size w w' := by
  have H2 := Lib.hid h2
  clear h2
  have H3 := Lib.hid h3
  clear h3
  go_enter Try.func37, Try.ntmps37
  have X0 := BoxAt.new w W H S 26
  have X1 := BoxAt.new (w.alloc (.cells #[.int .i64 W, .int .i64 H, .int .i64 S] 26)) A B C 38
  have X0 := X0.below (below1 _ (.cells #[.int .i64 A, .int .i64 B, .int .i64 C] 38))
  obtain ⟨b00, b01, b02, bz0⟩ := X0
  obtain ⟨b10, b11, b12, bz1⟩ := X1
  clear bz0 bz1
  simp only [World.size_alloc] at b00 b01 b02 b10 b11 b12
  go_wp2_with fail
  refine (PositionOk_b _ _ _ _ _ (by omega) h1 _).mono ?_
  rintro e w1 ⟨rfl, hB1⟩
  replace b00 := cell_kept b00 hB1
  replace b01 := cell_kept b01 hB1
  replace b02 := cell_kept b02 hB1
  replace b10 := cell_kept b10 hB1
  replace b11 := cell_kept b11 hB1
  replace b12 := cell_kept b12 hB1
  go_wp2_with fail
  refine (isLine_b _ _ _ _ _ _ _ H2.out _).mono ?_
  rintro e w2 ⟨rfl, hB2⟩
  replace b00 := cell_kept b00 hB2
  replace b01 := cell_kept b01 hB2
  replace b02 := cell_kept b02 hB2
  replace b10 := cell_kept b10 hB2
  replace b11 := cell_kept b11 hB2
  replace b12 := cell_kept b12 hB2
  go_wp2_with fail
  refine (jumpFrom_t P A B C hP ha hb hc H3.out _).mono ?_
  rintro e w3 ⟨rfl, hB3⟩
  replace b00 := cell_kept b00 hB3
  replace b01 := cell_kept b01 hB3
  replace b02 := cell_kept b02 hB3
  replace b10 := cell_kept b10 hB3
  replace b11 := cell_kept b11 hB3
  replace b12 := cell_kept b12 hB3
  go_wp2
  go_ret2
  exact ⟨rfl, ((((Joins.below_alloc2 _ _ _).andThen hB1).andThen hB2).andThen hB3)⟩

set_option maxHeartbeats 400000 in
theorem DoJump_false (W H S P A B C : Nat) (hP : P < 2 ^ 49) (ha : A ≤ 48) (hb : B ≤ 48) (hc : C ≤ 48) (h1 : pOk W H S P = true) (h2 : isL (linesL W H S) A B C = true) (h3 : canJ P A B C = false) (w : World) :
    Calls Try.prog 37 #[.agg #[.int .i64 W, .int .i64 H, .int .i64 S], .int .i64 P, .agg #[.int .i64 A, .int .i64 B, .int .i64 C]] w fun e w' => e = .returned (.tuple #[.int .i64 P, .bool false]) ∧ Below w.heap.size w w' := by
  have H2 := Lib.hid h2
  clear h2
  have H3 := Lib.hid h3
  clear h3
  go_enter Try.func37, Try.ntmps37
  have X0 := BoxAt.new w W H S 26
  have X1 := BoxAt.new (w.alloc (.cells #[.int .i64 W, .int .i64 H, .int .i64 S] 26)) A B C 38
  have X0 := X0.below (below1 _ (.cells #[.int .i64 A, .int .i64 B, .int .i64 C] 38))
  obtain ⟨b00, b01, b02, bz0⟩ := X0
  obtain ⟨b10, b11, b12, bz1⟩ := X1
  clear bz0 bz1
  simp only [World.size_alloc] at b00 b01 b02 b10 b11 b12
  go_wp2_with fail
  refine (PositionOk_b _ _ _ _ _ (by omega) h1 _).mono ?_
  rintro e w1 ⟨rfl, hB1⟩
  replace b00 := cell_kept b00 hB1
  replace b01 := cell_kept b01 hB1
  replace b02 := cell_kept b02 hB1
  replace b10 := cell_kept b10 hB1
  replace b11 := cell_kept b11 hB1
  replace b12 := cell_kept b12 hB1
  go_wp2_with fail
  refine (isLine_b _ _ _ _ _ _ _ H2.out _).mono ?_
  rintro e w2 ⟨rfl, hB2⟩
  replace b00 := cell_kept b00 hB2
  replace b01 := cell_kept b01 hB2
  replace b02 := cell_kept b02 hB2
  replace b10 := cell_kept b10 hB2
  replace b11 := cell_kept b11 hB2
  replace b12 := cell_kept b12 hB2
  go_wp2_with fail
  refine (jumpFrom_f P A B C hP ha hb hc H3.out _).mono ?_
  rintro e w3 ⟨rfl, hB3⟩
  replace b00 := cell_kept b00 hB3
  replace b01 := cell_kept b01 hB3
  replace b02 := cell_kept b02 hB3
  replace b10 := cell_kept b10 hB3
  replace b11 := cell_kept b11 hB3
  replace b12 := cell_kept b12 hB3
  go_wp2
  go_ret2
  exact ⟨rfl, ((((Joins.below_alloc2 _ _ _).andThen hB1).andThen hB2).andThen hB3)⟩

set_option maxHeartbeats 400000 in
theorem UndoJump_1 (a h s q la lb lc : Int) (hq : q < 2 ^ 63) (h1 : pOk a h s q = false) (w : World) :
    Calls Try.prog 38 #[.agg #[.int .i64 a, .int .i64 h, .int .i64 s], .int .i64 q, .agg #[.int .i64 la, .int .i64 lb, .int .i64 lc]] w fun e w' => e = .returned (.tuple #[.int .i64 q, .bool false]) ∧ Below w.heap.size w w' := by
  go_enter Try.func38, Try.ntmps38
  have X0 := BoxAt.new w a h s 26
  have X1 := BoxAt.new (w.alloc (.cells #[.int .i64 a, .int .i64 h, .int .i64 s] 26)) la lb lc 38
  have X0 := X0.below (below1 _ (.cells #[.int .i64 la, .int .i64 lb, .int .i64 lc] 38))
  obtain ⟨b00, b01, b02, bz0⟩ := X0
  obtain ⟨b10, b11, b12, bz1⟩ := X1
  clear bz0 bz1
  simp only [World.size_alloc] at b00 b01 b02 b10 b11 b12
  go_wp2_with fail
  refine (PositionOk_b _ _ _ _ _ (by omega) h1 _).mono ?_
  rintro e w1 ⟨rfl, hB1⟩
  replace b00 := cell_kept b00 hB1
  replace b01 := cell_kept b01 hB1
  replace b02 := cell_kept b02 hB1
  replace b10 := cell_kept b10 hB1
  replace b11 := cell_kept b11 hB1
  replace b12 := cell_kept b12 hB1
  go_wp2
  go_ret2
  exact ⟨rfl, ((Joins.below_alloc2 _ _ _).andThen hB1)⟩

set_option maxHeartbeats 400000 in
theorem UndoJump_2 (a h s q la lb lc : Int) (hq : q < 2 ^ 63) (h1 : pOk a h s q = true) (h2 : isL (linesL a h s) la lb lc = false) (w : World) :
    Calls Try.prog 38 #[.agg #[.int .i64 a, .int .i64 h, .int .i64 s], .int .i64 q, .agg #[.int .i64 la, .int .i64 lb, .int .i64 lc]] w fun e w' => e = .returned (.tuple #[.int .i64 q, .bool false]) ∧ Below w.heap.size w w' := by
  have H2 := Lib.hid h2
  clear h2
  go_enter Try.func38, Try.ntmps38
  have X0 := BoxAt.new w a h s 26
  have X1 := BoxAt.new (w.alloc (.cells #[.int .i64 a, .int .i64 h, .int .i64 s] 26)) la lb lc 38
  have X0 := X0.below (below1 _ (.cells #[.int .i64 la, .int .i64 lb, .int .i64 lc] 38))
  obtain ⟨b00, b01, b02, bz0⟩ := X0
  obtain ⟨b10, b11, b12, bz1⟩ := X1
  clear bz0 bz1
  simp only [World.size_alloc] at b00 b01 b02 b10 b11 b12
  go_wp2_with fail
  refine (PositionOk_b _ _ _ _ _ (by omega) h1 _).mono ?_
  rintro e w1 ⟨rfl, hB1⟩
  replace b00 := cell_kept b00 hB1
  replace b01 := cell_kept b01 hB1
  replace b02 := cell_kept b02 hB1
  replace b10 := cell_kept b10 hB1
  replace b11 := cell_kept b11 hB1
  replace b12 := cell_kept b12 hB1
  go_wp2_with fail
  refine (isLine_b _ _ _ _ _ _ _ H2.out _).mono ?_
  rintro e w2 ⟨rfl, hB2⟩
  replace b00 := cell_kept b00 hB2
  replace b01 := cell_kept b01 hB2
  replace b02 := cell_kept b02 hB2
  replace b10 := cell_kept b10 hB2
  replace b11 := cell_kept b11 hB2
  replace b12 := cell_kept b12 hB2
  go_wp2
  go_ret2
  exact ⟨rfl, (((Joins.below_alloc2 _ _ _).andThen hB1).andThen hB2)⟩

set_option maxHeartbeats 400000 in
theorem UndoJump_true (W H S P A B C : Nat) (hP : P < 2 ^ 49) (ha : A ≤ 48) (hb : B ≤ 48) (hc : C ≤ 48) (h1 : pOk W H S P = true) (h2 : isL (linesL W H S) A B C = true) (h3 : canU P A B C = true) (w : World) :
    Calls Try.prog 38 #[.agg #[.int .i64 W, .int .i64 H, .int .i64 S], .int .i64 P, .agg #[.int .i64 A, .int .i64 B, .int .i64 C]] w fun e w' => e = .returned (.tuple #[.int .i64 (undoTo P A B C : Nat), .bool true]) ∧ Below w.heap.size w w' := by
  have H2 := Lib.hid h2
  clear h2
  have H3 := Lib.hid h3
  clear h3
  go_enter Try.func38, Try.ntmps38
  have X0 := BoxAt.new w W H S 26
  have X1 := BoxAt.new (w.alloc (.cells #[.int .i64 W, .int .i64 H, .int .i64 S] 26)) A B C 38
  have X0 := X0.below (below1 _ (.cells #[.int .i64 A, .int .i64 B, .int .i64 C] 38))
  obtain ⟨b00, b01, b02, bz0⟩ := X0
  obtain ⟨b10, b11, b12, bz1⟩ := X1
  clear bz0 bz1
  simp only [World.size_alloc] at b00 b01 b02 b10 b11 b12
  go_wp2_with fail
  refine (PositionOk_b _ _ _ _ _ (by omega) h1 _).mono ?_
  rintro e w1 ⟨rfl, hB1⟩
  replace b00 := cell_kept b00 hB1
  replace b01 := cell_kept b01 hB1
  replace b02 := cell_kept b02 hB1
  replace b10 := cell_kept b10 hB1
  replace b11 := cell_kept b11 hB1
  replace b12 := cell_kept b12 hB1
  go_wp2_with fail
  refine (isLine_b _ _ _ _ _ _ _ H2.out _).mono ?_
  rintro e w2 ⟨rfl, hB2⟩
  replace b00 := cell_kept b00 hB2
  replace b01 := cell_kept b01 hB2
  replace b02 := cell_kept b02 hB2
  replace b10 := cell_kept b10 hB2
  replace b11 := cell_kept b11 hB2
  replace b12 := cell_kept b12 hB2
  go_wp2_with fail
  refine (undoFrom_t P A B C hP ha hb hc H3.out _).mono ?_
  rintro e w3 ⟨rfl, hB3⟩
  replace b00 := cell_kept b00 hB3
  replace b01 := cell_kept b01 hB3
  replace b02 := cell_kept b02 hB3
  replace b10 := cell_kept b10 hB3
  replace b11 := cell_kept b11 hB3
  replace b12 := cell_kept b12 hB3
  go_wp2
  go_ret2
  exact ⟨rfl, ((((Joins.below_alloc2 _ _ _).andThen hB1).andThen hB2).andThen hB3)⟩

set_option maxHeartbeats 400000 in
theorem UndoJump_false (W H S P A B C : Nat) (hP : P < 2 ^ 49) (ha : A ≤ 48) (hb : B ≤ 48) (hc : C ≤ 48) (h1 : pOk W H S P = true) (h2 : isL (linesL W H S) A B C = true) (h3 : canU P A B C = false) (w : World) :
    Calls Try.prog 38 #[.agg #[.int .i64 W, .int .i64 H, .int .i64 S], .int .i64 P, .agg #[.int .i64 A, .int .i64 B, .int .i64 C]] w fun e w' => e = .returned (.tuple #[.int .i64 P, .bool false]) ∧ Below w.heap.size w w' := by
  have H2 := Lib.hid h2
  clear h2
  have H3 := Lib.hid h3
  clear h3
  go_enter Try.func38, Try.ntmps38
  have X0 := BoxAt.new w W H S 26
  have X1 := BoxAt.new (w.alloc (.cells #[.int .i64 W, .int .i64 H, .int .i64 S] 26)) A B C 38
  have X0 := X0.below (below1 _ (.cells #[.int .i64 A, .int .i64 B, .int .i64 C] 38))
  obtain ⟨b00, b01, b02, bz0⟩ := X0
  obtain ⟨b10, b11, b12, bz1⟩ := X1
  clear bz0 bz1
  simp only [World.size_alloc] at b00 b01 b02 b10 b11 b12
  go_wp2_with fail
  refine (PositionOk_b _ _ _ _ _ (by omega) h1 _).mono ?_
  rintro e w1 ⟨rfl, hB1⟩
  replace b00 := cell_kept b00 hB1
  replace b01 := cell_kept b01 hB1
  replace b02 := cell_kept b02 hB1
  replace b10 := cell_kept b10 hB1
  replace b11 := cell_kept b11 hB1
  replace b12 := cell_kept b12 hB1
  go_wp2_with fail
  refine (isLine_b _ _ _ _ _ _ _ H2.out _).mono ?_
  rintro e w2 ⟨rfl, hB2⟩
  replace b00 := cell_kept b00 hB2
  replace b01 := cell_kept b01 hB2
  replace b02 := cell_kept b02 hB2
  replace b10 := cell_kept b10 hB2
  replace b11 := cell_kept b11 hB2
  replace b12 := cell_kept b12 hB2
  go_wp2_with fail
  refine (undoFrom_f P A B C hP ha hb hc H3.out _).mono ?_
  rintro e w3 ⟨rfl, hB3⟩
  replace b00 := cell_kept b00 hB3
  replace b01 := cell_kept b01 hB3
  replace b02 := cell_kept b02 hB3
  replace b10 := cell_kept b10 hB3
  replace b11 := cell_kept b11 hB3
  replace b12 := cell_kept b12 hB3
  go_wp2
  go_ret2
  exact ⟨rfl, ((((Joins.below_alloc2 _ _ _).andThen hB1).andThen hB2).andThen hB3)⟩

end Go.Proofs.Ytoipnooncnpndaa
