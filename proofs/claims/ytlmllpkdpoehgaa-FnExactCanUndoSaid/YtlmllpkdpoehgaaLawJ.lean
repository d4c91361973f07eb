/-
  The walks of the laws DoJump, UndoJump, CanJump, CanUndo.
-/
import Derived.Test.YtlmllpkdpoehgaaHeld
namespace Go.Proofs.Ytlmllpkdpoehgaa
open Go.RowKit
open Peg
set_option linter.unusedVariables false

theorem heldD {w w' : World} {n m : Nat} {a b c d e f : Value}
    (h : w'.cell? ⟨n, 0, none⟩ = some a ∧ w'.cell? ⟨n, 1, none⟩ = some b ∧ w'.cell? ⟨n, 2, none⟩ = some c ∧ w'.cell? ⟨m, 0, none⟩ = some d ∧ w'.cell? ⟨m, 1, none⟩ = some e ∧ w'.cell? ⟨m, 2, none⟩ = some f ∧ Below w.heap.size w w') :
    w'.drew.cell? ⟨n, 0, none⟩ = some a ∧ w'.drew.cell? ⟨n, 1, none⟩ = some b ∧ w'.drew.cell? ⟨n, 2, none⟩ = some c ∧ w'.drew.cell? ⟨m, 0, none⟩ = some d ∧ w'.drew.cell? ⟨m, 1, none⟩ = some e ∧ w'.drew.cell? ⟨m, 2, none⟩ = some f ∧ Below w.heap.size w w'.drew := by
  obtain ⟨h0, h1, h2, h3, h4, h5, h6⟩ := h
  exact ⟨h0, h1, h2, h3, h4, h5, h6.drew⟩

set_option maxHeartbeats 800000 in
theorem walkFnExactDoJump (a h s : Int) (wa : (Lit.int .i64 a).wf = true) (wh : (Lit.int .i64 h).wf = true) (ws : (Lit.int .i64 s).wf = true) (q : Int) (wq : (Lit.int .i64 q).wf = true) (la lb lc : Int) (wla : (Lit.int .i64 la).wf = true) (wlb : (Lit.int .i64 lb).wf = true) (wlc : (Lit.int .i64 lc).wf = true) (w : World) :
    Calls Try.prog 18 #[.agg #[.int .i64 a, .int .i64 h, .int .i64 s], .int .i64 q, .agg #[.int .i64 la, .int .i64 lb, .int .i64 lc]] w fun e w' => e = .returned (.bool true) ∧ Below w.heap.size w w' := by
  have hq := lt63 wq
  clear wa wh ws wq wla wlb wlc
  have hs := fun w => specDoJump_any a h s q la lb lc hq w
  have hi := fun w => DoJump_any a h s q la lb lc hq w
  generalize jumpO a h s q (isL (linesL a h s) la lb lc) la lb lc = o at hs hi
  skip
  have HS := Lib.hid hs
  have HI := Lib.hid hi
  clear hs hi
  go_enter Try.func18, Try.ntmps18
  have X0 := BoxAt.new w a h s 23
  have X1 := BoxAt.new (w.alloc (.cells #[.int .i64 a, .int .i64 h, .int .i64 s] 23)) la lb lc 56
  have X0 := X0.below (below1 _ (.cells #[.int .i64 la, .int .i64 lb, .int .i64 lc] 56))
  obtain ⟨b00, b01, b02, bz0⟩ := X0
  obtain ⟨b10, b11, b12, bz1⟩ := X1
  clear bz0 bz1
  simp only [World.size_alloc] at b00 b01 b02 b10 b11 b12
  have hB0 := Joins.below_alloc2 w (.cells #[.int .i64 a, .int .i64 h, .int .i64 s] 23) (.cells #[.int .i64 la, .int .i64 lb, .int .i64 lc] 56)
  go_wp2_with fail
  go_region_held3 (fun w' => w'.cell? ⟨w.heap.size, 0, none⟩ = some (.int .i64 a) ∧ w'.cell? ⟨w.heap.size, 1, none⟩ = some (.int .i64 h) ∧ w'.cell? ⟨w.heap.size, 2, none⟩ = some (.int .i64 s) ∧ w'.cell? ⟨w.heap.size + 1, 0, none⟩ = some (.int .i64 la) ∧ w'.cell? ⟨w.heap.size + 1, 1, none⟩ = some (.int .i64 lb) ∧ w'.cell? ⟨w.heap.size + 1, 2, none⟩ = some (.int .i64 lc) ∧ Below w.heap.size w w')
    (first | assumption | exact ⟨b00, b01, b02, b10, b11, b12, hB0.drew⟩ | exact heldD (by assumption) | exact held2 (by assumption) hB1)
    (first | (go_at_call 34; refine (toBoard_any _ _ _ _).mono ?_; rintro e w1 ⟨rfl, hB1⟩) | (go_at_call 73; refine (toLine_any _ _ _ _).mono ?_; rintro e w1 ⟨rfl, hB1⟩) | (go_at_call 77; refine (HS.out _).mono ?_; rintro e w1 ⟨rfl, hB1⟩))
  go_wp2_with fail
  go_region_held3 (fun w' => w'.cell? ⟨w.heap.size, 0, none⟩ = some (.int .i64 a) ∧ w'.cell? ⟨w.heap.size, 1, none⟩ = some (.int .i64 h) ∧ w'.cell? ⟨w.heap.size, 2, none⟩ = some (.int .i64 s) ∧ w'.cell? ⟨w.heap.size + 1, 0, none⟩ = some (.int .i64 la) ∧ w'.cell? ⟨w.heap.size + 1, 1, none⟩ = some (.int .i64 lb) ∧ w'.cell? ⟨w.heap.size + 1, 2, none⟩ = some (.int .i64 lc) ∧ Below w.heap.size w w')
    (first | assumption | exact ⟨b00, b01, b02, b10, b11, b12, hB0.drew⟩ | exact heldD (by assumption) | exact held2 (by assumption) hB1)
    (first | (go_at_call 34; refine (toBoard_any _ _ _ _).mono ?_; rintro e w1 ⟨rfl, hB1⟩) | (go_at_call 73; refine (toLine_any _ _ _ _).mono ?_; rintro e w1 ⟨rfl, hB1⟩) | (go_at_call 78; refine (HI.out _).mono ?_; rintro e w1 ⟨rfl, hB1⟩))
  go_wp2
  go_ret
  exact ⟨rfl, (‹_ ∧ _ ∧ _ ∧ _ ∧ _ ∧ _ ∧ Below w.heap.size w _›).2.2.2.2.2.2⟩

set_option maxHeartbeats 800000 in
theorem walkFnExactUndoJump (a h s : Int) (wa : (Lit.int .i64 a).wf = true) (wh : (Lit.int .i64 h).wf = true) (ws : (Lit.int .i64 s).wf = true) (q : Int) (wq : (Lit.int .i64 q).wf = true) (la lb lc : Int) (wla : (Lit.int .i64 la).wf = true) (wlb : (Lit.int .i64 lb).wf = true) (wlc : (Lit.int .i64 lc).wf = true) (w : World) :
    Calls Try.prog 19 #[.agg #[.int .i64 a, .int .i64 h, .int .i64 s], .int .i64 q, .agg #[.int .i64 la, .int .i64 lb, .int .i64 lc]] w fun e w' => e = .returned (.bool true) ∧ Below w.heap.size w w' := by
  have hq := lt63 wq
  clear wa wh ws wq wla wlb wlc
  have hs := fun w => specUndoJump_any a h s q la lb lc hq w
  have hi := fun w => UndoJump_any a h s q la lb lc hq w
  generalize undoO a h s q (isL (linesL a h s) la lb lc) la lb lc = o at hs hi
  skip
  have HS := Lib.hid hs
  have HI := Lib.hid hi
  clear hs hi
  go_enter Try.func19, Try.ntmps19
  have X0 := BoxAt.new w a h s 23
  have X1 := BoxAt.new (w.alloc (.cells #[.int .i64 a, .int .i64 h, .int .i64 s] 23)) la lb lc 56
  have X0 := X0.below (below1 _ (.cells #[.int .i64 la, .int .i64 lb, .int .i64 lc] 56))
  obtain ⟨b00, b01, b02, bz0⟩ := X0
  obtain ⟨b10, b11, b12, bz1⟩ := X1
  clear bz0 bz1
  simp only [World.size_alloc] at b00 b01 b02 b10 b11 b12
  have hB0 := Joins.below_alloc2 w (.cells #[.int .i64 a, .int .i64 h, .int .i64 s] 23) (.cells #[.int .i64 la, .int .i64 lb, .int .i64 lc] 56)
  go_wp2_with fail
  go_region_held3 (fun w' => w'.cell? ⟨w.heap.size, 0, none⟩ = some (.int .i64 a) ∧ w'.cell? ⟨w.heap.size, 1, none⟩ = some (.int .i64 h) ∧ w'.cell? ⟨w.heap.size, 2, none⟩ = some (.int .i64 s) ∧ w'.cell? ⟨w.heap.size + 1, 0, none⟩ = some (.int .i64 la) ∧ w'.cell? ⟨w.heap.size + 1, 1, none⟩ = some (.int .i64 lb) ∧ w'.cell? ⟨w.heap.size + 1, 2, none⟩ = some (.int .i64 lc) ∧ Below w.heap.size w w')
    (first | assumption | exact ⟨b00, b01, b02, b10, b11, b12, hB0.drew⟩ | exact heldD (by assumption) | exact held2 (by assumption) hB1)
    (first | (go_at_call 34; refine (toBoard_any _ _ _ _).mono ?_; rintro e w1 ⟨rfl, hB1⟩) | (go_at_call 73; refine (toLine_any _ _ _ _).mono ?_; rintro e w1 ⟨rfl, hB1⟩) | (go_at_call 79; refine (HS.out _).mono ?_; rintro e w1 ⟨rfl, hB1⟩))
  go_wp2_with fail
  go_region_held3 (fun w' => w'.cell? ⟨w.heap.size, 0, none⟩ = some (.int .i64 a) ∧ w'.cell? ⟨w.heap.size, 1, none⟩ = some (.int .i64 h) ∧ w'.cell? ⟨w.heap.size, 2, none⟩ = some (.int .i64 s) ∧ w'.cell? ⟨w.heap.size + 1, 0, none⟩ = some (.int .i64 la) ∧ w'.cell? ⟨w.heap.size + 1, 1, none⟩ = some (.int .i64 lb) ∧ w'.cell? ⟨w.heap.size + 1, 2, none⟩ = some (.int .i64 lc) ∧ Below w.heap.size w w')
    (first | assumption | exact ⟨b00, b01, b02, b10, b11, b12, hB0.drew⟩ | exact heldD (by assumption) | exact held2 (by assumption) hB1)
    (first | (go_at_call 34; refine (toBoard_any _ _ _ _).mono ?_; rintro e w1 ⟨rfl, hB1⟩) | (go_at_call 73; refine (toLine_any _ _ _ _).mono ?_; rintro e w1 ⟨rfl, hB1⟩) | (go_at_call 80; refine (HI.out _).mono ?_; rintro e w1 ⟨rfl, hB1⟩))
  go_wp2
  go_ret
  exact ⟨rfl, (‹_ ∧ _ ∧ _ ∧ _ ∧ _ ∧ _ ∧ Below w.heap.size w _›).2.2.2.2.2.2⟩

set_option maxHeartbeats 800000 in
theorem walkFnExactCanJump (a h s : Int) (wa : (Lit.int .i64 a).wf = true) (wh : (Lit.int .i64 h).wf = true) (ws : (Lit.int .i64 s).wf = true) (q : Int) (wq : (Lit.int .i64 q).wf = true) (la lb lc : Int) (wla : (Lit.int .i64 la).wf = true) (wlb : (Lit.int .i64 lb).wf = true) (wlc : (Lit.int .i64 lc).wf = true) (w : World) :
    Calls Try.prog 16 #[.agg #[.int .i64 a, .int .i64 h, .int .i64 s], .int .i64 q, .agg #[.int .i64 la, .int .i64 lb, .int .i64 lc]] w fun e w' => e = .returned (.bool true) ∧ Below w.heap.size w w' := by
  have hq := lt63 wq
  clear wa wh ws wq wla wlb wlc
  obtain ⟨b, hb⟩ : ∃ b, (jumpO a h s q (isL (linesL a h s) la lb lc) la lb lc).isSome = b := ⟨_, rfl⟩
  have hs := fun w => specCanJump_b b a h s q la lb lc hq hb w
  have hi := fun w => CanJump_b b a h s q la lb lc hq hb w
  clear hb
  cases b
  all_goals
    have HS := Lib.hid hs
    have HI := Lib.hid hi
    clear hs hi
    go_enter Try.func16, Try.ntmps16
    have X0 := BoxAt.new w a h s 23
    have X1 := BoxAt.new (w.alloc (.cells #[.int .i64 a, .int .i64 h, .int .i64 s] 23)) la lb lc 56
    have X0 := X0.below (below1 _ (.cells #[.int .i64 la, .int .i64 lb, .int .i64 lc] 56))
    obtain ⟨b00, b01, b02, bz0⟩ := X0
    obtain ⟨b10, b11, b12, bz1⟩ := X1
    clear bz0 bz1
    simp only [World.size_alloc] at b00 b01 b02 b10 b11 b12
    have hB0 := Joins.below_alloc2 w (.cells #[.int .i64 a, .int .i64 h, .int .i64 s] 23) (.cells #[.int .i64 la, .int .i64 lb, .int .i64 lc] 56)
    go_wp2_with fail
    go_region_held3 (fun w' => w'.cell? ⟨w.heap.size, 0, none⟩ = some (.int .i64 a) ∧ w'.cell? ⟨w.heap.size, 1, none⟩ = some (.int .i64 h) ∧ w'.cell? ⟨w.heap.size, 2, none⟩ = some (.int .i64 s) ∧ w'.cell? ⟨w.heap.size + 1, 0, none⟩ = some (.int .i64 la) ∧ w'.cell? ⟨w.heap.size + 1, 1, none⟩ = some (.int .i64 lb) ∧ w'.cell? ⟨w.heap.size + 1, 2, none⟩ = some (.int .i64 lc) ∧ Below w.heap.size w w')
      (first | assumption | exact ⟨b00, b01, b02, b10, b11, b12, hB0.drew⟩ | exact heldD (by assumption) | exact held2 (by assumption) hB1)
      (first | (go_at_call 34; refine (toBoard_any _ _ _ _).mono ?_; rintro e w1 ⟨rfl, hB1⟩) | (go_at_call 73; refine (toLine_any _ _ _ _).mono ?_; rintro e w1 ⟨rfl, hB1⟩) | (go_at_call 72; refine (HS.out _).mono ?_; rintro e w1 ⟨rfl, hB1⟩))
    go_wp2_with fail
    go_region_held3 (fun w' => w'.cell? ⟨w.heap.size, 0, none⟩ = some (.int .i64 a) ∧ w'.cell? ⟨w.heap.size, 1, none⟩ = some (.int .i64 h) ∧ w'.cell? ⟨w.heap.size, 2, none⟩ = some (.int .i64 s) ∧ w'.cell? ⟨w.heap.size + 1, 0, none⟩ = some (.int .i64 la) ∧ w'.cell? ⟨w.heap.size + 1, 1, none⟩ = some (.int .i64 lb) ∧ w'.cell? ⟨w.heap.size + 1, 2, none⟩ = some (.int .i64 lc) ∧ Below w.heap.size w w')
      (first | assumption | exact ⟨b00, b01, b02, b10, b11, b12, hB0.drew⟩ | exact heldD (by assumption) | exact held2 (by assumption) hB1)
      (first | (go_at_call 34; refine (toBoard_any _ _ _ _).mono ?_; rintro e w1 ⟨rfl, hB1⟩) | (go_at_call 73; refine (toLine_any _ _ _ _).mono ?_; rintro e w1 ⟨rfl, hB1⟩) | (go_at_call 74; refine (HI.out _).mono ?_; rintro e w1 ⟨rfl, hB1⟩))
    go_wp2
    go_ret
    exact ⟨rfl, (‹_ ∧ _ ∧ _ ∧ _ ∧ _ ∧ _ ∧ Below w.heap.size w _›).2.2.2.2.2.2⟩

set_option maxHeartbeats 800000 in
theorem walkFnExactCanUndo (a h s : Int) (wa : (Lit.int .i64 a).wf = true) (wh : (Lit.int .i64 h).wf = true) (ws : (Lit.int .i64 s).wf = true) (q : Int) (wq : (Lit.int .i64 q).wf = true) (la lb lc : Int) (wla : (Lit.int .i64 la).wf = true) (wlb : (Lit.int .i64 lb).wf = true) (wlc : (Lit.int .i64 lc).wf = true) (w : World) :
    Calls Try.prog 17 #[.agg #[.int .i64 a, .int .i64 h, .int .i64 s], .int .i64 q, .agg #[.int .i64 la, .int .i64 lb, .int .i64 lc]] w fun e w' => e = .returned (.bool true) ∧ Below w.heap.size w w' := by
  have hq := lt63 wq
  clear wa wh ws wq wla wlb wlc
  obtain ⟨b, hb⟩ : ∃ b, (undoO a h s q (isL (linesL a h s) la lb lc) la lb lc).isSome = b := ⟨_, rfl⟩
  have hs := fun w => specCanUndo_b b a h s q la lb lc hq hb w
  have hi := fun w => CanUndo_b b a h s q la lb lc hq hb w
  clear hb
  cases b
  all_goals
    have HS := Lib.hid hs
    have HI := Lib.hid hi
    clear hs hi
    go_enter Try.func17, Try.ntmps17
    have X0 := BoxAt.new w a h s 23
    have X1 := BoxAt.new (w.alloc (.cells #[.int .i64 a, .int .i64 h, .int .i64 s] 23)) la lb lc 56
    have X0 := X0.below (below1 _ (.cells #[.int .i64 la, .int .i64 lb, .int .i64 lc] 56))
    obtain ⟨b00, b01, b02, bz0⟩ := X0
    obtain ⟨b10, b11, b12, bz1⟩ := X1
    clear bz0 bz1
    simp only [World.size_alloc] at b00 b01 b02 b10 b11 b12
    have hB0 := Joins.below_alloc2 w (.cells #[.int .i64 a, .int .i64 h, .int .i64 s] 23) (.cells #[.int .i64 la, .int .i64 lb, .int .i64 lc] 56)
    go_wp2_with fail
    go_region_held3 (fun w' => w'.cell? ⟨w.heap.size, 0, none⟩ = some (.int .i64 a) ∧ w'.cell? ⟨w.heap.size, 1, none⟩ = some (.int .i64 h) ∧ w'.cell? ⟨w.heap.size, 2, none⟩ = some (.int .i64 s) ∧ w'.cell? ⟨w.heap.size + 1, 0, none⟩ = some (.int .i64 la) ∧ w'.cell? ⟨w.heap.size + 1, 1, none⟩ = some (.int .i64 lb) ∧ w'.cell? ⟨w.heap.size + 1, 2, none⟩ = some (.int .i64 lc) ∧ Below w.heap.size w w')
      (first | assumption | exact ⟨b00, b01, b02, b10, b11, b12, hB0.drew⟩ | exact heldD (by assumption) | exact held2 (by assumption) hB1)
      (first | (go_at_call 34; refine (toBoard_any _ _ _ _).mono ?_; rintro e w1 ⟨rfl, hB1⟩) | (go_at_call 73; refine (toLine_any _ _ _ _).mono ?_; rintro e w1 ⟨rfl, hB1⟩) | (go_at_call 75; refine (HS.out _).mono ?_; rintro e w1 ⟨rfl, hB1⟩))
    go_wp2_with fail
    go_region_held3 (fun w' => w'.cell? ⟨w.heap.size, 0, none⟩ = some (.int .i64 a) ∧ w'.cell? ⟨w.heap.size, 1, none⟩ = some (.int .i64 h) ∧ w'.cell? ⟨w.heap.size, 2, none⟩ = some (.int .i64 s) ∧ w'.cell? ⟨w.heap.size + 1, 0, none⟩ = some (.int .i64 la) ∧ w'.cell? ⟨w.heap.size + 1, 1, none⟩ = some (.int .i64 lb) ∧ w'.cell? ⟨w.heap.size + 1, 2, none⟩ = some (.int .i64 lc) ∧ Below w.heap.size w w')
      (first | assumption | exact ⟨b00, b01, b02, b10, b11, b12, hB0.drew⟩ | exact heldD (by assumption) | exact held2 (by assumption) hB1)
      (first | (go_at_call 34; refine (toBoard_any _ _ _ _).mono ?_; rintro e w1 ⟨rfl, hB1⟩) | (go_at_call 73; refine (toLine_any _ _ _ _).mono ?_; rintro e w1 ⟨rfl, hB1⟩) | (go_at_call 76; refine (HI.out _).mono ?_; rintro e w1 ⟨rfl, hB1⟩))
    go_wp2
    go_ret
    exact ⟨rfl, (‹_ ∧ _ ∧ _ ∧ _ ∧ _ ∧ _ ∧ Below w.heap.size w _›).2.2.2.2.2.2⟩

end Go.Proofs.Ytlmllpkdpoehgaa
