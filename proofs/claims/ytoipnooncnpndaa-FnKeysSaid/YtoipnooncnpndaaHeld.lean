/-
  Regions that draw their order with loads of two boxes beside calls that make memory: CanJump, CanUndo; and what leans on them.
-/
import Derived.Test.YtoipnooncnpndaaWalkR
import Derived.Deep.RegionHeld3
namespace Go.Proofs.Ytoipnooncnpndaa
open Go.RowKit
open Peg
set_option linter.unusedVariables false

/-- A take with the temporary written out. -/
theorem takeD {P : Program} {ops : Array Oper} {Q : Exit → Act → World → Prop} {md : Region.Mode} {S : World → Prop} {i : Nat} {oi : Oper} {d : Option Tmp} {v : Value} {fuel : Nat} {listed : Array Bool} {a : Act} {w : World} (hi : ops[i]? = some oi)
    (hs : Region.noSelect ops = true) (hf : Region.free md ops listed i = true) (hr : (Region.ready md ops listed).contains i = true) (hd : oi.dst = d)
    (hQ : ∀ c a w, Q (.panic c) (a.put d v) w → Q (.panic c) a w) (hy : YieldsIf P ops S oi v a) (hS : S w)
    (h : wpAnyH P md ops Q S fuel (listed.setIfInBounds i true) (a.put d v) w) : wpAnyH P md ops Q S (fuel + 1) listed a w := by
  subst hd
  exact wpAnyH_take hi hs hf hr hQ hy hS h
theorem held2 {w w' w1 : World} {n m : Nat} {a b c d e f : Value}
    (h : w'.cell? ⟨n, 0, none⟩ = some a ∧ w'.cell? ⟨n, 1, none⟩ = some b ∧ w'.cell? ⟨n, 2, none⟩ = some c ∧ w'.cell? ⟨m, 0, none⟩ = some d ∧ w'.cell? ⟨m, 1, none⟩ = some e ∧ w'.cell? ⟨m, 2, none⟩ = some f ∧ Below w.heap.size w w') (hb : Below w'.heap.size w' w1) :
    w1.cell? ⟨n, 0, none⟩ = some a ∧ w1.cell? ⟨n, 1, none⟩ = some b ∧ w1.cell? ⟨n, 2, none⟩ = some c ∧ w1.cell? ⟨m, 0, none⟩ = some d ∧ w1.cell? ⟨m, 1, none⟩ = some e ∧ w1.cell? ⟨m, 2, none⟩ = some f ∧ Below w.heap.size w w1 := by
  obtain ⟨h0, h1, h2, h3, h4, h5, h6⟩ := h
  exact ⟨cell_kept h0 hb, cell_kept h1 hb, cell_kept h2 hb, cell_kept h3 hb, cell_kept h4 hb, cell_kept h5 hb, h6.andThen hb⟩
theorem cell_keptD {w0 w w1 : World} {n o : Nat} {v : Value} (h : w0.cell? ⟨n, o, none⟩ = some v) (hb : Below w.heap.size w w1) (hd : w.heap = w0.heap) : w1.cell? ⟨n, o, none⟩ = some v :=
  cell_kept (by unfold World.cell? at h ⊢; rw [hd]; exact h) hb
theorem pow_wrap (A : Nat) (ha : A ≤ 48) : IntKind.i64.wrap (2 ^ A) = ((2 ^ A : Nat) : Int) := by
  have := pow48 A ha
  rw [cast_pow]
  generalize 2 ^ A = X at *
  rw [Bit.i64_wrap _ (by omega) (by omega)]
theorem canJ_val (P A B C : Nat) (hP : P < 2 ^ 49) (ha : A ≤ 48) (hb : B ≤ 48) (hc : C ≤ 48) (h1 : A ≠ B) (h2 : B ≠ C) (h3 : A ≠ C) :
    (bits BinOp.and IntKind.i64 (P : Int) (bits3 A B C : Nat) == bits BinOp.or IntKind.i64 (IntKind.i64.wrap (2 ^ A)) (IntKind.i64.wrap (2 ^ B))) = canJ P A B C := by
  have := bits3_lt ha hb hc
  rw [pow_wrap A ha, pow_wrap B hb, Bit.i64_and P _ (by omega) (by omega), Bit.i64_or _ _ (pow48 A ha) (pow48 B hb), ← jump_iff h1 h2 h3, Bool.eq_iff_iff, beq_iff_eq, beq_iff_eq]
  omega
theorem canU_val (P A B C : Nat) (hP : P < 2 ^ 49) (ha : A ≤ 48) (hb : B ≤ 48) (hc : C ≤ 48) (h1 : A ≠ B) (h2 : B ≠ C) (h3 : A ≠ C) :
    (bits BinOp.and IntKind.i64 (P : Int) (bits3 A B C : Nat) == IntKind.i64.wrap (2 ^ C)) = canU P A B C := by
  have := bits3_lt ha hb hc
  rw [pow_wrap C hc, Bit.i64_and P _ (by omega) (by omega), ← undo_iff h1 h2 h3, Bool.eq_iff_iff, beq_iff_eq, beq_iff_eq]
  omega
theorem xor_val (P A B C : Nat) (hP : P < 2 ^ 49) (ha : A ≤ 48) (hb : B ≤ 48) (hc : C ≤ 48) : bits BinOp.xor IntKind.i64 (P : Int) (bits3 A B C : Nat) = ((P ^^^ bits3 A B C : Nat) : Int) := by
  have := bits3_lt ha hb hc
  rw [Bit.i64_xor P _ (by omega) (by omega)]
theorem jumpO_no1 {a h s q la lb lc : Int} {ok : Bool} (h1 : pOk a h s q = false) : jumpO a h s q ok la lb lc = none := by simp [jumpO, h1]
theorem jumpO_no2 {a h s q la lb lc : Int} : jumpO a h s q false la lb lc = none := by simp [jumpO]
theorem undoO_no1 {a h s q la lb lc : Int} {ok : Bool} (h1 : pOk a h s q = false) : undoO a h s q ok la lb lc = none := by simp [undoO, h1]
theorem undoO_no2 {a h s q la lb lc : Int} : undoO a h s q false la lb lc = none := by simp [undoO]
theorem jumpO_nat {a h s : Int} {P A B C : Nat} (h1 : pOk a h s P = true) : jumpO a h s P true A B C = if canJ P A B C then some (jumpTo P A B C) else none := by simp [jumpO, h1]
theorem undoO_nat {a h s : Int} {P A B C : Nat} (h1 : pOk a h s P = true) : undoO a h s P true A B C = if canU P A B C then some (undoTo P A B C) else none := by simp [undoO, h1]

set_option maxHeartbeats 800000 in
theorem specCanJump_1 (a h s q la lb lc : Int) (hq : q < 2 ^ 63) (h1 : pOk a h s q = false) (w : World) :
    Calls Try.prog 89 #[.agg #[.int .i64 a, .int .i64 h, .int .i64 s], .int .i64 q, .agg #[.int .i64 la, .int .i64 lb, .int .i64 lc]] w fun e w' => e = .returned (.bool false) ∧ Below w.heap.size w w' := by
  go_enter Try.func89, Try.ntmps89
  have X0 := BoxAt.new w a h s 26
  have X1 := BoxAt.new (w.alloc (.cells #[.int .i64 a, .int .i64 h, .int .i64 s] 26)) la lb lc 38
  have X0 := X0.below (below1 _ (.cells #[.int .i64 la, .int .i64 lb, .int .i64 lc] 38))
  obtain ⟨b00, b01, b02, bz0⟩ := X0
  obtain ⟨b10, b11, b12, bz1⟩ := X1
  clear bz0 bz1
  simp only [World.size_alloc] at b00 b01 b02 b10 b11 b12
  have hB0 := Joins.below_alloc2 w (.cells #[.int .i64 a, .int .i64 h, .int .i64 s] 26) (.cells #[.int .i64 la, .int .i64 lb, .int .i64 lc] 38)
  go_wp2_with fail
  refine wp_region_held_drew (S := (fun w' => w'.cell? ⟨w.heap.size, 0, none⟩ = some (.int .i64 a) ∧ w'.cell? ⟨w.heap.size, 1, none⟩ = some (.int .i64 h) ∧ w'.cell? ⟨w.heap.size, 2, none⟩ = some (.int .i64 s) ∧ w'.cell? ⟨w.heap.size + 1, 0, none⟩ = some (.int .i64 la) ∧ w'.cell? ⟨w.heap.size + 1, 1, none⟩ = some (.int .i64 lb) ∧ w'.cell? ⟨w.heap.size + 1, 2, none⟩ = some (.int .i64 lc) ∧ Below w.heap.size w w')) (by kernel_rfl) ⟨b00, b01, b02, b10, b11, b12, hB0.drew⟩ (fun hHeld => ?_)
  refine takeD (i := 0) (d := some 7) (v := .agg #[.int .i64 a, .int .i64 h, .int .i64 s]) rfl (by kernel_rfl) (by kernel_rfl) (by kernel_rfl) rfl (fun _ _ _ h => h) (Or.inl ⟨by kernel_rfl, fun w1 hS1 => by (try dsimp only at hS1); go_simp⟩) hHeld ?_
  simp only [Act.put, List.setIfInBounds_toArray, List.set_cons_zero, List.set_cons_succ]
  refine takeD (i := 1) (d := some 8) (v := .int .i64 q) rfl (by kernel_rfl) (by kernel_rfl) (by kernel_rfl) rfl (fun _ _ _ h => h) (Or.inl ⟨by kernel_rfl, fun w1 hS1 => by rfl⟩) hHeld ?_
  simp only [Act.put, List.setIfInBounds_toArray, List.set_cons_zero, List.set_cons_succ]
  refine wpAnyH_ready (rs := [2]) (by kernel_rfl) (by simp) ?_
  refine AllReadyH.cons rfl (fun K hK => ?_) AllReadyH.nil
  go_simp
  go_at_call 57
  refine (specPositionOk_b _ _ _ _ _ (by omega) h1 _).mono ?_
  rintro e w1 ⟨rfl, hB1⟩
  (try go_simp)
  refine hK.out _ _ (by first | exact held2 hHeld hB1 | exact held2 (by assumption) hB1) (fun hHeld => ?_)
  clear hK K
  (try simp only [Act.put, List.setIfInBounds_toArray, List.set_cons_zero, List.set_cons_succ])
  refine takeD (i := 3) (d := some 10) (v := .bool false) rfl (by kernel_rfl) (by kernel_rfl) (by kernel_rfl) rfl (fun _ _ _ h => h) (Or.inl ⟨by kernel_rfl, fun w1 hS1 => by rfl⟩) hHeld ?_
  simp only [Act.put, List.setIfInBounds_toArray, List.set_cons_zero, List.set_cons_succ]
  refine takeD (i := 4) (d := some 11) (v := undef) rfl (by kernel_rfl) (by kernel_rfl) (by kernel_rfl) rfl (fun _ _ _ h => h) (Or.inr ⟨by kernel_rfl, rfl⟩) hHeld ?_
  simp only [Act.put, List.setIfInBounds_toArray, List.set_cons_zero, List.set_cons_succ]
  refine takeD (i := 5) (d := some 12) (v := undef) rfl (by kernel_rfl) (by kernel_rfl) (by kernel_rfl) rfl (fun _ _ _ h => h) (Or.inr ⟨by kernel_rfl, rfl⟩) hHeld ?_
  simp only [Act.put, List.setIfInBounds_toArray, List.set_cons_zero, List.set_cons_succ]
  refine takeD (i := 6) (d := some 13) (v := undef) rfl (by kernel_rfl) (by kernel_rfl) (by kernel_rfl) rfl (fun _ _ _ h => h) (Or.inr ⟨by kernel_rfl, rfl⟩) hHeld ?_
  simp only [Act.put, List.setIfInBounds_toArray, List.set_cons_zero, List.set_cons_succ]
  refine takeD (i := 7) (d := some 14) (v := .bool false) rfl (by kernel_rfl) (by kernel_rfl) (by kernel_rfl) rfl (fun _ _ _ h => h) (Or.inl ⟨by kernel_rfl, fun w1 hS1 => by rfl⟩) hHeld ?_
  simp only [Act.put, List.setIfInBounds_toArray, List.set_cons_zero, List.set_cons_succ]
  refine takeD (i := 8) (d := some 15) (v := .bool false) rfl (by kernel_rfl) (by kernel_rfl) (by kernel_rfl) rfl (fun _ _ _ h => h) (Or.inl ⟨by kernel_rfl, fun w1 hS1 => by rfl⟩) hHeld ?_
  simp only [Act.put, List.setIfInBounds_toArray, List.set_cons_zero, List.set_cons_succ]
  refine takeD (i := 9) (d := some 16) (v := undef) rfl (by kernel_rfl) (by kernel_rfl) (by kernel_rfl) rfl (fun _ _ _ h => h) (Or.inr ⟨by kernel_rfl, rfl⟩) hHeld ?_
  simp only [Act.put, List.setIfInBounds_toArray, List.set_cons_zero, List.set_cons_succ]
  refine takeD (i := 10) (d := some 17) (v := undef) rfl (by kernel_rfl) (by kernel_rfl) (by kernel_rfl) rfl (fun _ _ _ h => h) (Or.inr ⟨by kernel_rfl, rfl⟩) hHeld ?_
  simp only [Act.put, List.setIfInBounds_toArray, List.set_cons_zero, List.set_cons_succ]
  refine takeD (i := 11) (d := some 18) (v := undef) rfl (by kernel_rfl) (by kernel_rfl) (by kernel_rfl) rfl (fun _ _ _ h => h) (Or.inr ⟨by kernel_rfl, rfl⟩) hHeld ?_
  simp only [Act.put, List.setIfInBounds_toArray, List.set_cons_zero, List.set_cons_succ]
  refine takeD (i := 12) (d := some 19) (v := undef) rfl (by kernel_rfl) (by kernel_rfl) (by kernel_rfl) rfl (fun _ _ _ h => h) (Or.inr ⟨by kernel_rfl, rfl⟩) hHeld ?_
  simp only [Act.put, List.setIfInBounds_toArray, List.set_cons_zero, List.set_cons_succ]
  refine takeD (i := 13) (d := some 20) (v := undef) rfl (by kernel_rfl) (by kernel_rfl) (by kernel_rfl) rfl (fun _ _ _ h => h) (Or.inr ⟨by kernel_rfl, rfl⟩) hHeld ?_
  simp only [Act.put, List.setIfInBounds_toArray, List.set_cons_zero, List.set_cons_succ]
  refine takeD (i := 14) (d := some 21) (v := undef) rfl (by kernel_rfl) (by kernel_rfl) (by kernel_rfl) rfl (fun _ _ _ h => h) (Or.inr ⟨by kernel_rfl, rfl⟩) hHeld ?_
  simp only [Act.put, List.setIfInBounds_toArray, List.set_cons_zero, List.set_cons_succ]
  refine takeD (i := 15) (d := some 22) (v := undef) rfl (by kernel_rfl) (by kernel_rfl) (by kernel_rfl) rfl (fun _ _ _ h => h) (Or.inr ⟨by kernel_rfl, rfl⟩) hHeld ?_
  simp only [Act.put, List.setIfInBounds_toArray, List.set_cons_zero, List.set_cons_succ]
  refine takeD (i := 16) (d := some 23) (v := undef) rfl (by kernel_rfl) (by kernel_rfl) (by kernel_rfl) rfl (fun _ _ _ h => h) (Or.inr ⟨by kernel_rfl, rfl⟩) hHeld ?_
  simp only [Act.put, List.setIfInBounds_toArray, List.set_cons_zero, List.set_cons_succ]
  refine takeD (i := 17) (d := some 24) (v := undef) rfl (by kernel_rfl) (by kernel_rfl) (by kernel_rfl) rfl (fun _ _ _ h => h) (Or.inr ⟨by kernel_rfl, rfl⟩) hHeld ?_
  simp only [Act.put, List.setIfInBounds_toArray, List.set_cons_zero, List.set_cons_succ]
  refine takeD (i := 18) (d := some 25) (v := undef) rfl (by kernel_rfl) (by kernel_rfl) (by kernel_rfl) rfl (fun _ _ _ h => h) (Or.inr ⟨by kernel_rfl, rfl⟩) hHeld ?_
  simp only [Act.put, List.setIfInBounds_toArray, List.set_cons_zero, List.set_cons_succ]
  refine takeD (i := 19) (d := some 26) (v := undef) rfl (by kernel_rfl) (by kernel_rfl) (by kernel_rfl) rfl (fun _ _ _ h => h) (Or.inr ⟨by kernel_rfl, rfl⟩) hHeld ?_
  simp only [Act.put, List.setIfInBounds_toArray, List.set_cons_zero, List.set_cons_succ]
  refine takeD (i := 20) (d := some 27) (v := undef) rfl (by kernel_rfl) (by kernel_rfl) (by kernel_rfl) rfl (fun _ _ _ h => h) (Or.inr ⟨by kernel_rfl, rfl⟩) hHeld ?_
  simp only [Act.put, List.setIfInBounds_toArray, List.set_cons_zero, List.set_cons_succ]
  refine takeD (i := 21) (d := some 28) (v := .bool false) rfl (by kernel_rfl) (by kernel_rfl) (by kernel_rfl) rfl (fun _ _ _ h => h) (Or.inl ⟨by kernel_rfl, fun w1 hS1 => by rfl⟩) hHeld ?_
  simp only [Act.put, List.setIfInBounds_toArray, List.set_cons_zero, List.set_cons_succ]
  refine takeD (i := 22) (d := some 6) (v := .bool false) rfl (by kernel_rfl) (by kernel_rfl) (by kernel_rfl) rfl (fun _ _ _ h => h) (Or.inl ⟨by kernel_rfl, fun w1 hS1 => by rfl⟩) hHeld ?_
  simp only [Act.put, List.setIfInBounds_toArray, List.set_cons_zero, List.set_cons_succ]
  refine wpAnyH_done (by kernel_rfl) ?_ _
  go_wp2
  go_ret
  exact ⟨rfl, hHeld.2.2.2.2.2.2⟩

set_option maxHeartbeats 800000 in
theorem specCanJump_2 (a h s q la lb lc : Int) (hq : q < 2 ^ 63) (h1 : pOk a h s q = true) (h2 : isL (linesL a h s) la lb lc = false) (w : World) :
    Calls Try.prog 89 #[.agg #[.int .i64 a, .int .i64 h, .int .i64 s], .int .i64 q, .agg #[.int .i64 la, .int .i64 lb, .int .i64 lc]] w fun e w' => e = .returned (.bool false) ∧ Below w.heap.size w w' := by
  have H2 := Lib.hid h2
  clear h2
  go_enter Try.func89, Try.ntmps89
  have X0 := BoxAt.new w a h s 26
  have X1 := BoxAt.new (w.alloc (.cells #[.int .i64 a, .int .i64 h, .int .i64 s] 26)) la lb lc 38
  have X0 := X0.below (below1 _ (.cells #[.int .i64 la, .int .i64 lb, .int .i64 lc] 38))
  obtain ⟨b00, b01, b02, bz0⟩ := X0
  obtain ⟨b10, b11, b12, bz1⟩ := X1
  clear bz0 bz1
  simp only [World.size_alloc] at b00 b01 b02 b10 b11 b12
  have hB0 := Joins.below_alloc2 w (.cells #[.int .i64 a, .int .i64 h, .int .i64 s] 26) (.cells #[.int .i64 la, .int .i64 lb, .int .i64 lc] 38)
  go_wp2_with fail
  refine wp_region_held_drew (S := (fun w' => w'.cell? ⟨w.heap.size, 0, none⟩ = some (.int .i64 a) ∧ w'.cell? ⟨w.heap.size, 1, none⟩ = some (.int .i64 h) ∧ w'.cell? ⟨w.heap.size, 2, none⟩ = some (.int .i64 s) ∧ w'.cell? ⟨w.heap.size + 1, 0, none⟩ = some (.int .i64 la) ∧ w'.cell? ⟨w.heap.size + 1, 1, none⟩ = some (.int .i64 lb) ∧ w'.cell? ⟨w.heap.size + 1, 2, none⟩ = some (.int .i64 lc) ∧ Below w.heap.size w w')) (by kernel_rfl) ⟨b00, b01, b02, b10, b11, b12, hB0.drew⟩ (fun hHeld => ?_)
  refine takeD (i := 0) (d := some 7) (v := .agg #[.int .i64 a, .int .i64 h, .int .i64 s]) rfl (by kernel_rfl) (by kernel_rfl) (by kernel_rfl) rfl (fun _ _ _ h => h) (Or.inl ⟨by kernel_rfl, fun w1 hS1 => by (try dsimp only at hS1); go_simp⟩) hHeld ?_
  simp only [Act.put, List.setIfInBounds_toArray, List.set_cons_zero, List.set_cons_succ]
  refine takeD (i := 1) (d := some 8) (v := .int .i64 q) rfl (by kernel_rfl) (by kernel_rfl) (by kernel_rfl) rfl (fun _ _ _ h => h) (Or.inl ⟨by kernel_rfl, fun w1 hS1 => by rfl⟩) hHeld ?_
  simp only [Act.put, List.setIfInBounds_toArray, List.set_cons_zero, List.set_cons_succ]
  refine wpAnyH_ready (rs := [2]) (by kernel_rfl) (by simp) ?_
  refine AllReadyH.cons rfl (fun K hK => ?_) AllReadyH.nil
  go_simp
  go_at_call 57
  refine (specPositionOk_b _ _ _ _ _ (by omega) h1 _).mono ?_
  rintro e w1 ⟨rfl, hB1⟩
  (try go_simp)
  refine hK.out _ _ (by first | exact held2 hHeld hB1 | exact held2 (by assumption) hB1) (fun hHeld => ?_)
  clear hK K
  (try simp only [Act.put, List.setIfInBounds_toArray, List.set_cons_zero, List.set_cons_succ])
  refine takeD (i := 3) (d := some 10) (v := .bool true) rfl (by kernel_rfl) (by kernel_rfl) (by kernel_rfl) rfl (fun _ _ _ h => h) (Or.inl ⟨by kernel_rfl, fun w1 hS1 => by rfl⟩) hHeld ?_
  simp only [Act.put, List.setIfInBounds_toArray, List.set_cons_zero, List.set_cons_succ]
  refine takeD (i := 4) (d := some 11) (v := .agg #[.int .i64 a, .int .i64 h, .int .i64 s]) rfl (by kernel_rfl) (by kernel_rfl) (by kernel_rfl) rfl (fun _ _ _ h => h) (Or.inl ⟨by kernel_rfl, fun w1 hS1 => by (try dsimp only at hS1); go_simp⟩) hHeld ?_
  simp only [Act.put, List.setIfInBounds_toArray, List.set_cons_zero, List.set_cons_succ]
  refine takeD (i := 5) (d := some 12) (v := .agg #[.int .i64 la, .int .i64 lb, .int .i64 lc]) rfl (by kernel_rfl) (by kernel_rfl) (by kernel_rfl) rfl (fun _ _ _ h => h) (Or.inl ⟨by kernel_rfl, fun w1 hS1 => by (try dsimp only at hS1); go_simp⟩) hHeld ?_
  simp only [Act.put, List.setIfInBounds_toArray, List.set_cons_zero, List.set_cons_succ]
  refine wpAnyH_ready (rs := [6]) (by kernel_rfl) (by simp) ?_
  refine AllReadyH.cons rfl (fun K hK => ?_) AllReadyH.nil
  go_simp
  go_at_call 92
  refine (specl05Is_b _ _ _ _ _ _ _ H2.out _).mono ?_
  rintro e w1 ⟨rfl, hB1⟩
  (try go_simp)
  refine hK.out _ _ (by first | exact held2 hHeld hB1 | exact held2 (by assumption) hB1) (fun hHeld => ?_)
  clear hK K
  (try simp only [Act.put, List.setIfInBounds_toArray, List.set_cons_zero, List.set_cons_succ])
  refine takeD (i := 7) (d := some 14) (v := .bool false) rfl (by kernel_rfl) (by kernel_rfl) (by kernel_rfl) rfl (fun _ _ _ h => h) (Or.inl ⟨by kernel_rfl, fun w1 hS1 => by rfl⟩) hHeld ?_
  simp only [Act.put, List.setIfInBounds_toArray, List.set_cons_zero, List.set_cons_succ]
  refine takeD (i := 8) (d := some 15) (v := .bool false) rfl (by kernel_rfl) (by kernel_rfl) (by kernel_rfl) rfl (fun _ _ _ h => h) (Or.inl ⟨by kernel_rfl, fun w1 hS1 => by rfl⟩) hHeld ?_
  simp only [Act.put, List.setIfInBounds_toArray, List.set_cons_zero, List.set_cons_succ]
  refine takeD (i := 9) (d := some 16) (v := undef) rfl (by kernel_rfl) (by kernel_rfl) (by kernel_rfl) rfl (fun _ _ _ h => h) (Or.inr ⟨by kernel_rfl, rfl⟩) hHeld ?_
  simp only [Act.put, List.setIfInBounds_toArray, List.set_cons_zero, List.set_cons_succ]
  refine takeD (i := 10) (d := some 17) (v := undef) rfl (by kernel_rfl) (by kernel_rfl) (by kernel_rfl) rfl (fun _ _ _ h => h) (Or.inr ⟨by kernel_rfl, rfl⟩) hHeld ?_
  simp only [Act.put, List.setIfInBounds_toArray, List.set_cons_zero, List.set_cons_succ]
  refine takeD (i := 11) (d := some 18) (v := undef) rfl (by kernel_rfl) (by kernel_rfl) (by kernel_rfl) rfl (fun _ _ _ h => h) (Or.inr ⟨by kernel_rfl, rfl⟩) hHeld ?_
  simp only [Act.put, List.setIfInBounds_toArray, List.set_cons_zero, List.set_cons_succ]
  refine takeD (i := 12) (d := some 19) (v := undef) rfl (by kernel_rfl) (by kernel_rfl) (by kernel_rfl) rfl (fun _ _ _ h => h) (Or.inr ⟨by kernel_rfl, rfl⟩) hHeld ?_
  simp only [Act.put, List.setIfInBounds_toArray, List.set_cons_zero, List.set_cons_succ]
  refine takeD (i := 13) (d := some 20) (v := undef) rfl (by kernel_rfl) (by kernel_rfl) (by kernel_rfl) rfl (fun _ _ _ h => h) (Or.inr ⟨by kernel_rfl, rfl⟩) hHeld ?_
  simp only [Act.put, List.setIfInBounds_toArray, List.set_cons_zero, List.set_cons_succ]
  refine takeD (i := 14) (d := some 21) (v := undef) rfl (by kernel_rfl) (by kernel_rfl) (by kernel_rfl) rfl (fun _ _ _ h => h) (Or.inr ⟨by kernel_rfl, rfl⟩) hHeld ?_
  simp only [Act.put, List.setIfInBounds_toArray, List.set_cons_zero, List.set_cons_succ]
  refine takeD (i := 15) (d := some 22) (v := undef) rfl (by kernel_rfl) (by kernel_rfl) (by kernel_rfl) rfl (fun _ _ _ h => h) (Or.inr ⟨by kernel_rfl, rfl⟩) hHeld ?_
  simp only [Act.put, List.setIfInBounds_toArray, List.set_cons_zero, List.set_cons_succ]
  refine takeD (i := 16) (d := some 23) (v := undef) rfl (by kernel_rfl) (by kernel_rfl) (by kernel_rfl) rfl (fun _ _ _ h => h) (Or.inr ⟨by kernel_rfl, rfl⟩) hHeld ?_
  simp only [Act.put, List.setIfInBounds_toArray, List.set_cons_zero, List.set_cons_succ]
  refine takeD (i := 17) (d := some 24) (v := undef) rfl (by kernel_rfl) (by kernel_rfl) (by kernel_rfl) rfl (fun _ _ _ h => h) (Or.inr ⟨by kernel_rfl, rfl⟩) hHeld ?_
  simp only [Act.put, List.setIfInBounds_toArray, List.set_cons_zero, List.set_cons_succ]
  refine takeD (i := 18) (d := some 25) (v := undef) rfl (by kernel_rfl) (by kernel_rfl) (by kernel_rfl) rfl (fun _ _ _ h => h) (Or.inr ⟨by kernel_rfl, rfl⟩) hHeld ?_
  simp only [Act.put, List.setIfInBounds_toArray, List.set_cons_zero, List.set_cons_succ]
  refine takeD (i := 19) (d := some 26) (v := undef) rfl (by kernel_rfl) (by kernel_rfl) (by kernel_rfl) rfl (fun _ _ _ h => h) (Or.inr ⟨by kernel_rfl, rfl⟩) hHeld ?_
  simp only [Act.put, List.setIfInBounds_toArray, List.set_cons_zero, List.set_cons_succ]
  refine takeD (i := 20) (d := some 27) (v := undef) rfl (by kernel_rfl) (by kernel_rfl) (by kernel_rfl) rfl (fun _ _ _ h => h) (Or.inr ⟨by kernel_rfl, rfl⟩) hHeld ?_
  simp only [Act.put, List.setIfInBounds_toArray, List.set_cons_zero, List.set_cons_succ]
  refine takeD (i := 21) (d := some 28) (v := .bool false) rfl (by kernel_rfl) (by kernel_rfl) (by kernel_rfl) rfl (fun _ _ _ h => h) (Or.inl ⟨by kernel_rfl, fun w1 hS1 => by rfl⟩) hHeld ?_
  simp only [Act.put, List.setIfInBounds_toArray, List.set_cons_zero, List.set_cons_succ]
  refine takeD (i := 22) (d := some 6) (v := .bool false) rfl (by kernel_rfl) (by kernel_rfl) (by kernel_rfl) rfl (fun _ _ _ h => h) (Or.inl ⟨by kernel_rfl, fun w1 hS1 => by rfl⟩) hHeld ?_
  simp only [Act.put, List.setIfInBounds_toArray, List.set_cons_zero, List.set_cons_succ]
  refine wpAnyH_done (by kernel_rfl) ?_ _
  go_wp2
  go_ret
  exact ⟨rfl, hHeld.2.2.2.2.2.2⟩

set_option maxHeartbeats 800000 in
theorem specCanJump_3 (W H S P A B C : Nat) (hP : P < 2 ^ 49) (ha : A ≤ 48) (hb : B ≤ 48) (hc : C ≤ 48) (h1 : pOk W H S P = true) (h2 : isL (linesL W H S) A B C = true) (n1 : A ≠ B) (n2 : B ≠ C) (n3 : A ≠ C) (w : World) :
    Calls Try.prog 89 #[.agg #[.int .i64 W, .int .i64 H, .int .i64 S], .int .i64 P, .agg #[.int .i64 A, .int .i64 B, .int .i64 C]] w fun e w' => e = .returned (.bool (canJ P A B C)) ∧ Below w.heap.size w w' := by
  have H2 := Lib.hid h2
  clear h2
  go_enter Try.func89, Try.ntmps89
  have X0 := BoxAt.new w W H S 26
  have X1 := BoxAt.new (w.alloc (.cells #[.int .i64 W, .int .i64 H, .int .i64 S] 26)) A B C 38
  have X0 := X0.below (below1 _ (.cells #[.int .i64 A, .int .i64 B, .int .i64 C] 38))
  obtain ⟨b00, b01, b02, bz0⟩ := X0
  obtain ⟨b10, b11, b12, bz1⟩ := X1
  clear bz0 bz1
  simp only [World.size_alloc] at b00 b01 b02 b10 b11 b12
  have hB0 := Joins.below_alloc2 w (.cells #[.int .i64 W, .int .i64 H, .int .i64 S] 26) (.cells #[.int .i64 A, .int .i64 B, .int .i64 C] 38)
  go_wp2_with fail
  go_region_held3 (fun w' => w'.cell? ⟨w.heap.size, 0, none⟩ = some (.int .i64 W) ∧ w'.cell? ⟨w.heap.size, 1, none⟩ = some (.int .i64 H) ∧ w'.cell? ⟨w.heap.size, 2, none⟩ = some (.int .i64 S) ∧ w'.cell? ⟨w.heap.size + 1, 0, none⟩ = some (.int .i64 A) ∧ w'.cell? ⟨w.heap.size + 1, 1, none⟩ = some (.int .i64 B) ∧ w'.cell? ⟨w.heap.size + 1, 2, none⟩ = some (.int .i64 C) ∧ Below w.heap.size w w')
    (first | assumption | exact ⟨b00, b01, b02, b10, b11, b12, hB0.drew⟩ | exact ⟨b00, b01, b02, b10, b11, b12, hB0⟩ | exact held2 (by assumption) hB1)
    (first | (go_at_call 57; refine (specPositionOk_b _ _ _ _ _ (by omega) h1 _).mono ?_; rintro e w1 ⟨rfl, hB1⟩) | (go_at_call 92; refine (specl05Is_b _ _ _ _ _ _ _ H2.out _).mono ?_; rintro e w1 ⟨rfl, hB1⟩) | (go_at_call 76; refine (l05Bits_any A B C ha hb hc _).mono ?_; rintro e w1 ⟨rfl, hB1⟩))
  go_wp2
  go_ret
  exact ⟨by rw [← canJ_val P A B C hP ha hb hc n1 n2 n3]; rfl, (‹_ ∧ _ ∧ _ ∧ _ ∧ _ ∧ _ ∧ Below w.heap.size w _›).2.2.2.2.2.2⟩

theorem specCanJump_b (b : Bool) (a h s q la lb lc : Int) (hq : q < 2 ^ 63) (hb : (jumpO a h s q (isL (linesL a h s) la lb lc) la lb lc).isSome = b) (w : World) :
    Calls Try.prog 89 #[.agg #[.int .i64 a, .int .i64 h, .int .i64 s], .int .i64 q, .agg #[.int .i64 la, .int .i64 lb, .int .i64 lc]] w fun e w' => e = .returned (.bool b) ∧ Below w.heap.size w w' := by
  subst hb
  cases h1 : pOk a h s q
  · rw [jumpO_no1 h1]; exact specCanJump_1 a h s q la lb lc hq h1 w
  · cases h2 : isL (linesL a h s) la lb lc
    · rw [jumpO_no2]; exact specCanJump_2 a h s q la lb lc hq h1 h2 w
    · obtain ⟨W, H, S, P, A, B, C, rfl, rfl, rfl, rfl, rfl, rfl, rfl, ok, hP, ha, hb, hc, hS, dx, dy, hI⟩ := jump_nat h1 h2
      have hd := hI.distinct
      have := specCanJump_3 W H S P A B C hP ha hb hc h1 h2 hd.1 hd.2.1 hd.2.2 w
      rw [jumpO_nat h1]
      cases hc : canJ P A B C <;> rw [hc] at this <;> exact this

theorem DoJump_any (a h s q la lb lc : Int) (hq : q < 2 ^ 63) (w : World) :
    Calls Try.prog 37 #[.agg #[.int .i64 a, .int .i64 h, .int .i64 s], .int .i64 q, .agg #[.int .i64 la, .int .i64 lb, .int .i64 lc]] w (RetJ w (jumpO a h s q (isL (linesL a h s) la lb lc) la lb lc) q) := by
  cases h1 : pOk a h s q
  · rw [jumpO_no1 h1]; exact DoJump_1 a h s q la lb lc hq h1 w
  · cases h2 : isL (linesL a h s) la lb lc
    · rw [jumpO_no2]; exact DoJump_2 a h s q la lb lc hq h1 h2 w
    · obtain ⟨W, H, S, P, A, B, C, rfl, rfl, rfl, rfl, rfl, rfl, rfl, ok, hP, ha, hb, hc, hS, dx, dy, hI⟩ := jump_nat h1 h2
      rw [jumpO_nat h1]
      cases h3 : canJ P A B C
      · exact DoJump_false W H S P A B C hP ha hb hc h1 h2 h3 w
      · exact DoJump_true W H S P A B C hP ha hb hc h1 h2 h3 w

set_option maxHeartbeats 400000 in
theorem CanJump_b (b : Bool) (a h s q la lb lc : Int) (hq : q < 2 ^ 63) (hb : (jumpO a h s q (isL (linesL a h s) la lb lc) la lb lc).isSome = b) (w : World) :
    Calls Try.prog 40 #[.agg #[.int .i64 a, .int .i64 h, .int .i64 s], .int .i64 q, .agg #[.int .i64 la, .int .i64 lb, .int .i64 lc]] w fun e w' => e = .returned (.bool b) ∧ Below w.heap.size w w' := by
  obtain ⟨o, ho⟩ : ∃ o, jumpO a h s q (isL (linesL a h s) la lb lc) la lb lc = o := ⟨_, rfl⟩
  rw [ho] at hb
  have HO := Lib.hid ho
  clear ho
  subst hb
  go_enter Try.func40, Try.ntmps40
  have X0 := BoxAt.new w a h s 26
  have X1 := BoxAt.new (w.alloc (.cells #[.int .i64 a, .int .i64 h, .int .i64 s] 26)) la lb lc 38
  have X0 := X0.below (below1 _ (.cells #[.int .i64 la, .int .i64 lb, .int .i64 lc] 38))
  obtain ⟨b00, b01, b02, bz0⟩ := X0
  obtain ⟨b10, b11, b12, bz1⟩ := X1
  clear bz0 bz1
  simp only [World.size_alloc] at b00 b01 b02 b10 b11 b12
  go_wp2_with fail
  have hc := DoJump_any a h s q la lb lc hq
  rw [HO.out] at hc
  have HC := Lib.hid hc
  clear hc
  refine (HC.out _).mono ?_
  rintro e w1 hr
  obtain ⟨rfl, hB1⟩ := hr
  go_wp2
  go_ret
  exact ⟨rfl, ((Joins.below_alloc2 _ _ _).andThen hB1)⟩

set_option maxHeartbeats 400000 in
theorem specDoJump_no (a h s q la lb lc : Int) (hq : q < 2 ^ 63) (h1 : (jumpO a h s q (isL (linesL a h s) la lb lc) la lb lc).isSome = false) (w : World) :
    Calls Try.prog 80 #[.agg #[.int .i64 a, .int .i64 h, .int .i64 s], .int .i64 q, .agg #[.int .i64 la, .int .i64 lb, .int .i64 lc]] w fun e w' => e = .returned (.tuple #[.int .i64 q, .bool false]) ∧ Below w.heap.size w w' := by
  have H1 := Lib.hid h1
  clear h1
  go_enter Try.func80, Try.ntmps80
  have X0 := BoxAt.new w a h s 26
  have X1 := BoxAt.new (w.alloc (.cells #[.int .i64 a, .int .i64 h, .int .i64 s] 26)) la lb lc 38
  have X0 := X0.below (below1 _ (.cells #[.int .i64 la, .int .i64 lb, .int .i64 lc] 38))
  obtain ⟨b00, b01, b02, bz0⟩ := X0
  obtain ⟨b10, b11, b12, bz1⟩ := X1
  clear bz0 bz1
  simp only [World.size_alloc] at b00 b01 b02 b10 b11 b12
  go_wp2_with fail
  refine (specCanJump_b false _ _ _ _ _ _ _ hq H1.out _).mono ?_
  rintro e w1 ⟨rfl, hB1⟩
  replace b00 := cell_kept b00 hB1
  replace b01 := cell_kept b01 hB1
  replace b02 := cell_kept b02 hB1
  replace b10 := cell_kept b10 hB1
  replace b11 := cell_kept b11 hB1
  replace b12 := cell_kept b12 hB1
  go_wp2
  go_ret2
  exact ⟨rfl, ((Joins.below_alloc2 _ _ _).andThen hB1)⟩

set_option maxHeartbeats 400000 in
theorem specDoJump_yes (W H S P A B C : Nat) (hP : P < 2 ^ 49) (ha : A ≤ 48) (hb : B ≤ 48) (hc : C ≤ 48) (h1 : (jumpO W H S P (isL (linesL W H S) A B C) A B C).isSome = true) (hcan : canJ P A B C = true) (w : World) :
    Calls Try.prog 80 #[.agg #[.int .i64 W, .int .i64 H, .int .i64 S], .int .i64 P, .agg #[.int .i64 A, .int .i64 B, .int .i64 C]] w fun e w' => e = .returned (.tuple #[.int .i64 (jumpTo P A B C : Nat), .bool true]) ∧ Below w.heap.size w w' := by
  have H1 := Lib.hid h1
  clear h1
  have HCn := Lib.hid hcan
  clear hcan
  go_enter Try.func80, Try.ntmps80
  have X0 := BoxAt.new w W H S 26
  have X1 := BoxAt.new (w.alloc (.cells #[.int .i64 W, .int .i64 H, .int .i64 S] 26)) A B C 38
  have X0 := X0.below (below1 _ (.cells #[.int .i64 A, .int .i64 B, .int .i64 C] 38))
  obtain ⟨b00, b01, b02, bz0⟩ := X0
  obtain ⟨b10, b11, b12, bz1⟩ := X1
  clear bz0 bz1
  simp only [World.size_alloc] at b00 b01 b02 b10 b11 b12
  go_wp2_with fail
  refine (specCanJump_b true _ _ _ _ _ _ _ (by omega) H1.out _).mono ?_
  rintro e w1 ⟨rfl, hB1⟩
  replace b00 := cell_kept b00 hB1
  replace b01 := cell_kept b01 hB1
  replace b02 := cell_kept b02 hB1
  replace b10 := cell_kept b10 hB1
  replace b11 := cell_kept b11 hB1
  replace b12 := cell_kept b12 hB1
  go_wp2_with fail
  refine (l05Bits_any A B C ha hb hc _).mono ?_
  rintro e w2 ⟨rfl, hB2⟩
  replace b00 := cell_kept b00 hB2
  replace b01 := cell_kept b01 hB2
  replace b02 := cell_kept b02 hB2
  replace b10 := cell_kept b10 hB2
  replace b11 := cell_kept b11 hB2
  replace b12 := cell_kept b12 hB2
  go_wp2
  go_ret2
  exact ⟨by rw [← jump_eq HCn.out, ← xor_val P A B C hP ha hb hc]; rfl, (((Joins.below_alloc2 _ _ _).andThen hB1).andThen hB2)⟩

theorem specDoJump_any (a h s q la lb lc : Int) (hq : q < 2 ^ 63) (w : World) :
    Calls Try.prog 80 #[.agg #[.int .i64 a, .int .i64 h, .int .i64 s], .int .i64 q, .agg #[.int .i64 la, .int .i64 lb, .int .i64 lc]] w (RetJ w (jumpO a h s q (isL (linesL a h s) la lb lc) la lb lc) q) := by
  cases ho : jumpO a h s q (isL (linesL a h s) la lb lc) la lb lc with
  | none => exact specDoJump_no a h s q la lb lc hq (by rw [ho]; rfl) w
  | some r =>
    cases h1 : pOk a h s q
    · rw [jumpO_no1 h1] at ho; cases ho
    · cases h2 : isL (linesL a h s) la lb lc
      · rw [h2, jumpO_no2] at ho; cases ho
      · have hs : (jumpO a h s q (isL (linesL a h s) la lb lc) la lb lc).isSome = true := by rw [ho]; rfl
        obtain ⟨W, H, S, P, A, B, C, rfl, rfl, rfl, rfl, rfl, rfl, rfl, ok, hP, ha, hb, hc, hS, dx, dy, hI⟩ := jump_nat h1 h2
        rw [h2, jumpO_nat h1] at ho
        cases hcan : canJ P A B C
        · rw [hcan] at ho; cases ho
        · rw [hcan] at ho
          simp only [if_true, Option.some.injEq] at ho
          subst ho
          exact specDoJump_yes W H S P A B C hP ha hb hc hs hcan w

theorem UndoJump_any (a h s q la lb lc : Int) (hq : q < 2 ^ 63) (w : World) :
    Calls Try.prog 38 #[.agg #[.int .i64 a, .int .i64 h, .int .i64 s], .int .i64 q, .agg #[.int .i64 la, .int .i64 lb, .int .i64 lc]] w (RetJ w (undoO a h s q (isL (linesL a h s) la lb lc) la lb lc) q) := by
  cases h1 : pOk a h s q
  · rw [undoO_no1 h1]; exact UndoJump_1 a h s q la lb lc hq h1 w
  · cases h2 : isL (linesL a h s) la lb lc
    · rw [undoO_no2]; exact UndoJump_2 a h s q la lb lc hq h1 h2 w
    · obtain ⟨W, H, S, P, A, B, C, rfl, rfl, rfl, rfl, rfl, rfl, rfl, ok, hP, ha, hb, hc, hS, dx, dy, hI⟩ := jump_nat h1 h2
      rw [undoO_nat h1]
      cases h3 : canU P A B C
      · exact UndoJump_false W H S P A B C hP ha hb hc h1 h2 h3 w
      · exact UndoJump_true W H S P A B C hP ha hb hc h1 h2 h3 w

set_option maxHeartbeats 400000 in
theorem CanUndo_b (b : Bool) (a h s q la lb lc : Int) (hq : q < 2 ^ 63) (hb : (undoO a h s q (isL (linesL a h s) la lb lc) la lb lc).isSome = b) (w : World) :
    Calls Try.prog 41 #[.agg #[.int .i64 a, .int .i64 h, .int .i64 s], .int .i64 q, .agg #[.int .i64 la, .int .i64 lb, .int .i64 lc]] w fun e w' => e = .returned (.bool b) ∧ Below w.heap.size w w' := by
  obtain ⟨o, ho⟩ : ∃ o, undoO a h s q (isL (linesL a h s) la lb lc) la lb lc = o := ⟨_, rfl⟩
  rw [ho] at hb
  have HO := Lib.hid ho
  clear ho
  subst hb
  go_enter Try.func41, Try.ntmps41
  have X0 := BoxAt.new w a h s 26
  have X1 := BoxAt.new (w.alloc (.cells #[.int .i64 a, .int .i64 h, .int .i64 s] 26)) la lb lc 38
  have X0 := X0.below (below1 _ (.cells #[.int .i64 la, .int .i64 lb, .int .i64 lc] 38))
  obtain ⟨b00, b01, b02, bz0⟩ := X0
  obtain ⟨b10, b11, b12, bz1⟩ := X1
  clear bz0 bz1
  simp only [World.size_alloc] at b00 b01 b02 b10 b11 b12
  go_wp2_with fail
  have hc := UndoJump_any a h s q la lb lc hq
  rw [HO.out] at hc
  have HC := Lib.hid hc
  clear hc
  refine (HC.out _).mono ?_
  rintro e w1 hr
  obtain ⟨rfl, hB1⟩ := hr
  go_wp2
  go_ret
  exact ⟨rfl, ((Joins.below_alloc2 _ _ _).andThen hB1)⟩

end Go.Proofs.Ytoipnooncnpndaa
