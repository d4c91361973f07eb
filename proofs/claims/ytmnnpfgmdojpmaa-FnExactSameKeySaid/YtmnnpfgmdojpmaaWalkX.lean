/-
  The walks of KeyOf, KeyNumber (impl and spec).
-/
import Derived.Test.YtmnnpfgmdojpmaaWalkZ
import Derived.StillTailTactics
import Derived.Deep.RegionHeld3
namespace Go.Proofs.Ytmnnpfgmdojpmaa
open Go.RowKit
open Peg
set_option linter.unusedVariables false

/-- A take with the temporary written out. -/
theorem takeE {P : Program} {ops : Array Oper} {Q : Exit → Act → World → Prop} {md : Region.Mode} {S : World → Prop} {i : Nat} {oi : Oper} {d : Option Tmp} {v : Value} {fuel : Nat} {listed : Array Bool} {a : Act} {w : World} (hi : ops[i]? = some oi)
    (hs : Region.noSelect ops = true) (hf : Region.free md ops listed i = true) (hr : (Region.ready md ops listed).contains i = true) (hd : oi.dst = d)
    (hQ : ∀ c a w, Q (.panic c) (a.put d v) w → Q (.panic c) a w) (hy : YieldsIf P ops S oi v a) (hS : S w)
    (h : wpAnyH P md ops Q S fuel (listed.setIfInBounds i true) (a.put d v) w) : wpAnyH P md ops Q S (fuel + 1) listed a w := by
  subst hd
  exact wpAnyH_take hi hs hf hr hQ hy hS h
theorem pos_parts {a h s q : Int} (h1 : pOk a h s q = true) : ∃ W H S P : Nat, a = W ∧ h = H ∧ s = S ∧ q = P ∧ Ok W H S ∧ P < 2 ^ 49 ∧ P &&& S = P := by
  have hb : bOk a h s = true := by unfold pOk at h1; simp only [Bool.and_eq_true] at h1; exact h1.1
  obtain ⟨W, H, S, rfl, rfl, rfl, ok⟩ := (bOk_iff _ _ _).1 hb
  obtain ⟨P, rfl, hP⟩ := (pOk_iff ok q).1 h1
  exact ⟨W, H, S, P, rfl, rfl, rfl, rfl, ok, Nat.lt_of_le_of_lt (sub_le hP) ok.lt, hP⟩

theorem ClassOf_any (a h s q : Int) (hq : q < 2 ^ 63) (w : World) :
    Calls Try.prog 20 #[.agg #[.int .i64 a, .int .i64 h, .int .i64 s], .int .i64 q] w (RetI w (classL a h s q)) := by
  cases h1 : pOk a h s q
  · rw [classL_no h1]; exact ClassOf_no a h s q hq h1 w
  · obtain ⟨W, H, S, P, rfl, rfl, rfl, rfl, ok, hP, hPS⟩ := pos_parts h1
    rw [classL_yes h1]; exact ClassOf_yes W H S P ok hP hPS h1 w

theorem specClassOf_any (a h s q : Int) (hq : q < 2 ^ 63) (w : World) :
    Calls Try.prog 18 #[.agg #[.int .i64 a, .int .i64 h, .int .i64 s], .int .i64 q] w (RetI w (classL a h s q)) := by
  cases h1 : pOk a h s q
  · rw [classL_no h1]; exact specClassOf_no a h s q hq h1 w
  · obtain ⟨W, H, S, P, rfl, rfl, rfl, rfl, ok, hP, hPS⟩ := pos_parts h1
    rw [classL_yes h1]; exact specClassOf_yes W H S P ok hP hPS h1 w

/-- A row of six numbers, as the walk reads it. -/
theorem six_at {w : World} {B : Nat} {v : Value} {c : List Int} (h : RowI w B v c) (hb : Bin c) : ∃ (g cap : Nat) (x0 x1 x2 x3 x4 x5 : Int), v = .slice (some ⟨g, 0, none⟩) 6 cap ∧ c = [x0, x1, x2, x3, x4, x5] ∧
    (x0 = 0 ∨ x0 = 1) ∧ (x1 = 0 ∨ x1 = 1) ∧ (x2 = 0 ∨ x2 = 1) ∧ (x3 = 0 ∨ x3 = 1) ∧ (x4 = 0 ∨ x4 = 1) ∧ (x5 = 0 ∨ x5 = 1) ∧
    w.cell? ⟨g, 0, none⟩ = some (.int .i64 x0) ∧ w.cell? ⟨g, 1, none⟩ = some (.int .i64 x1) ∧ w.cell? ⟨g, 2, none⟩ = some (.int .i64 x2) ∧ w.cell? ⟨g, 3, none⟩ = some (.int .i64 x3) ∧ w.cell? ⟨g, 4, none⟩ = some (.int .i64 x4) ∧ w.cell? ⟨g, 5, none⟩ = some (.int .i64 x5) := by
  have h6 := hb.1
  match c, h6, h, hb with
  | [x0, x1, x2, x3, x4, x5], _, h, hb =>
    rcases h.forms with ⟨h0, _⟩ | ⟨_, g, cap, rfl, _⟩
    · cases h0
    · exact ⟨g, cap, x0, x1, x2, x3, x4, x5, rfl, rfl, hb.2 0 (by decide), hb.2 1 (by decide), hb.2 2 (by decide), hb.2 3 (by decide), hb.2 4 (by decide), hb.2 5 (by decide), RowI.at h 0 (by simp), RowI.at h 1 (by simp), RowI.at h 2 (by simp), RowI.at h 3 (by simp), RowI.at h 4 (by simp), RowI.at h 5 (by simp)⟩
/-- A row of four numbers. -/
theorem four_at {w : World} {B : Nat} {v : Value} {x0 x1 x2 x3 : Int} (h : RowI w B v [x0, x1, x2, x3]) : ∃ (g cap : Nat), v = .slice (some ⟨g, 0, none⟩) 4 cap ∧ g < w.heap.size ∧
    w.cell? ⟨g, 0, none⟩ = some (.int .i64 x0) ∧ w.cell? ⟨g, 1, none⟩ = some (.int .i64 x1) ∧ w.cell? ⟨g, 2, none⟩ = some (.int .i64 x2) ∧ w.cell? ⟨g, 3, none⟩ = some (.int .i64 x3) := by
  rcases h.forms with ⟨h0, _⟩ | ⟨_, g, cap, rfl, _, hg, _⟩
  · cases h0
  · exact ⟨g, cap, rfl, hg, RowI.at h 0 (by simp), RowI.at h 1 (by simp), RowI.at h 2 (by simp), RowI.at h 3 (by simp)⟩
theorem RowI.nil2 {w : World} {B : Nat} {v : Value} (h : RowI w B v []) : ∃ a cap, v = .slice a 0 cap := by
  rcases h.forms with ⟨_, a, cap, hv⟩ | ⟨hx, _⟩
  · exact ⟨a, cap, hv⟩
  · simp at hx
theorem xor_diff {x y : Int} (hx : x = 0 ∨ x = 1) (hy : y = 0 ∨ y = 1) : bits BinOp.xor IntKind.i64 x y = diff2 x y := by
  rcases hx with rfl | rfl <;> rcases hy with rfl | rfl <;> rfl
theorem bin_row (w : World) (B : Nat) (hb : B ≤ w.heap.size) (x0 x1 x2 x3 : Int) (n : Nat) (hn : n = w.heap.size) : RowI (w.alloc (.cells #[.int .i64 x0, .int .i64 x1, .int .i64 x2, .int .i64 x3] 3)) B (.slice (some ⟨n, 0, none⟩) 4 4) [x0, x1, x2, x3] := by
  subst hn
  exact ⟨by simp, .inr ⟨w.heap.size, 4, #[.int .i64 x0, .int .i64 x1, .int .i64 x2, .int .i64 x3], rfl, hb, heap_alloc_new w _, by simp, by decide, rfl, by simp⟩⟩

theorem l07Differ_any (x y : Int) (w : World) :
    Calls Try.prog 49 #[.int .i64 x, .int .i64 y] w fun e w' => e = .returned (.int .i64 (diff2 x y)) ∧ w' = w := by
  by_cases hxy : x = y
  · have q1 : (x != y) = false := by simp [hxy]
    go_enter Try.func49, Try.ntmps49
    go_wp2
    go_ret
    exact ⟨by unfold diff2; rw [if_pos hxy]; rfl, rfl⟩
  · have q1 : (x != y) = true := by simp [hxy]
    go_enter Try.func49, Try.ntmps49
    go_wp2
    go_ret
    exact ⟨by unfold diff2; rw [if_neg hxy]; rfl, rfl⟩

theorem KeyOf_no (a h s q : Int) (hq : q < 2 ^ 63) (h1 : pOk a h s q = false) (w : World) :
    Calls Try.prog 29 #[.agg #[.int .i64 a, .int .i64 h, .int .i64 s], .int .i64 q] w (RetI w []) := by
  have hc := ClassOf_any a h s q hq
  rw [classL_no h1] at hc
  have HC := Lib.hid hc
  clear hc
  go_enter Try.func29, Try.ntmps29
  go_wp2_with fail
  refine (HC.out _).mono ?_
  rintro e w1 hr
  obtain ⟨v, rfl, hr1, hB1⟩ := hr
  obtain ⟨pa, cap, rfl⟩ := RowI.nil2 hr1
  go_wp2
  go_ret
  exact ⟨_, rfl, ⟨rfl, .inl ⟨rfl, rfl⟩⟩, (below1 _ _).andThen hB1⟩

set_option maxHeartbeats 800000 in
theorem KeyOf_yes (a h s q : Int) (hq : q < 2 ^ 63) (h1 : pOk a h s q = true) (w : World) :
    Calls Try.prog 29 #[.agg #[.int .i64 a, .int .i64 h, .int .i64 s], .int .i64 q] w (RetI w (keyL a h s q)) := by
  have hc := ClassOf_any a h s q hq
  have hbin := classL_bin h1
  rw [keyL_yes h1]
  generalize classL a h s q = c at hc hbin
  have HC := Lib.hid hc
  clear hc
  go_enter Try.func29, Try.ntmps29
  go_wp2_with fail
  refine (HC.out _).mono ?_
  rintro e w1 hr
  obtain ⟨v, rfl, hr1, hB1⟩ := hr
  obtain ⟨g, cap, x0, x1, x2, x3, x4, x5, rfl, rfl, y0, y1, y2, y3, y4, y5, e0, e1, e2, e3, e4, e5⟩ := six_at hr1 hbin
  have hbb := Lib.hid ((below1 _ _).andThen hB1)
  have d0 := xor_diff y0 y1
  have d1 := xor_diff y1 y2
  have d2 := xor_diff y3 y4
  have d3 := xor_diff y4 y5
  have hsz := hB1.size
  simp at hsz
  clear hbin hr1 hB1 HC y0 y1 y2 y3 y4 y5
  go_wp2_with fail
  go_still_tail 28, (by kernel_rfl)
  change wpList _ _ _ _ _ w1.drew
  go_wp2_with fail
  go_ret
  exact ⟨_, rfl, bin_row w1.drew _ (by simp; omega) _ _ _ _ _ rfl, (hbb.out.andThen (Below.drew (Below.refl _ _))).more _⟩


theorem specKeyOf_no (a h s q : Int) (hq : q < 2 ^ 63) (h1 : pOk a h s q = false) (w : World) :
    Calls Try.prog 28 #[.agg #[.int .i64 a, .int .i64 h, .int .i64 s], .int .i64 q] w (RetI w []) := by
  have hc := specClassOf_any a h s q hq
  rw [classL_no h1] at hc
  have HC := Lib.hid hc
  clear hc
  go_enter Try.func28, Try.ntmps28
  go_wp2_with fail
  refine (HC.out _).mono ?_
  rintro e w1 hr
  obtain ⟨v, rfl, hr1, hB1⟩ := hr
  obtain ⟨pa, cap, rfl⟩ := RowI.nil2 hr1
  go_wp2
  go_ret
  exact ⟨_, rfl, World.ownsRow_made w1 #[] 0 (by have := hB1.size; simp at this; omega) (by decide) rfl, ((below1 _ _).andThen hB1).more _⟩

theorem held6 {w w' : World} {g : Nat} {x0 x1 x2 x3 x4 x5 : Value} (h : w'.cell? ⟨g, 0, none⟩ = some x0 ∧ w'.cell? ⟨g, 1, none⟩ = some x1 ∧ w'.cell? ⟨g, 2, none⟩ = some x2 ∧ w'.cell? ⟨g, 3, none⟩ = some x3 ∧ w'.cell? ⟨g, 4, none⟩ = some x4 ∧ w'.cell? ⟨g, 5, none⟩ = some x5 ∧ Below w.heap.size w w') (ob : Obj) :
    (w'.alloc ob).cell? ⟨g, 0, none⟩ = some x0 ∧ (w'.alloc ob).cell? ⟨g, 1, none⟩ = some x1 ∧ (w'.alloc ob).cell? ⟨g, 2, none⟩ = some x2 ∧ (w'.alloc ob).cell? ⟨g, 3, none⟩ = some x3 ∧ (w'.alloc ob).cell? ⟨g, 4, none⟩ = some x4 ∧ (w'.alloc ob).cell? ⟨g, 5, none⟩ = some x5 ∧ Below w.heap.size w (w'.alloc ob) := by
  obtain ⟨h0, h1, h2, h3, h4, h5, h6⟩ := h
  exact ⟨cell_keptA h0 (below1 _ _), cell_keptA h1 (below1 _ _), cell_keptA h2 (below1 _ _), cell_keptA h3 (below1 _ _), cell_keptA h4 (below1 _ _), cell_keptA h5 (below1 _ _), h6.more _⟩

set_option maxHeartbeats 1600000 in
theorem specKeyOf_yes (a h s q : Int) (hq : q < 2 ^ 63) (h1 : pOk a h s q = true) (w : World) :
    Calls Try.prog 28 #[.agg #[.int .i64 a, .int .i64 h, .int .i64 s], .int .i64 q] w (RetI w (keyL a h s q)) := by
  have hc := specClassOf_any a h s q hq
  have hbin := classL_bin h1
  rw [keyL_yes h1]
  generalize classL a h s q = c at hc hbin
  have HC := Lib.hid hc
  clear hc
  go_enter Try.func28, Try.ntmps28
  go_wp2_with fail
  refine (HC.out _).mono ?_
  rintro e w1 hr
  obtain ⟨v, rfl, hr1, hB1⟩ := hr
  obtain ⟨g, cap, x0, x1, x2, x3, x4, x5, rfl, rfl, y0, y1, y2, y3, y4, y5, e0, e1, e2, e3, e4, e5⟩ := six_at hr1 hbin
  have hB0 := (below1 _ _).andThen hB1
  have hsz := hB1.size
  simp at hsz
  clear hbin hr1 hB1 HC y0 y1 y2 y3 y4 y5
  go_wp2_with fail
  refine wp_region_held_drew (S := (fun w' : World => w'.cell? ⟨g, 0, none⟩ = some (.int .i64 x0) ∧ w'.cell? ⟨g, 1, none⟩ = some (.int .i64 x1) ∧ w'.cell? ⟨g, 2, none⟩ = some (.int .i64 x2) ∧ w'.cell? ⟨g, 3, none⟩ = some (.int .i64 x3) ∧ w'.cell? ⟨g, 4, none⟩ = some (.int .i64 x4) ∧ w'.cell? ⟨g, 5, none⟩ = some (.int .i64 x5) ∧ Below w.heap.size w w')) (by kernel_rfl) ⟨e0, e1, e2, e3, e4, e5, hB0.drew⟩ (fun hHeld => ?_)
  refine takeE (i := 0) (d := some 13) (v := .slice (some ⟨g, 0, none⟩) 6 cap) rfl (by kernel_rfl) (by kernel_rfl) (by kernel_rfl) rfl (fun _ _ _ h => h) (Or.inl ⟨by kernel_rfl, fun w1 hS1 => by rfl⟩) hHeld ?_
  simp only [Act.put, List.setIfInBounds_toArray, List.set_cons_zero, List.set_cons_succ]
  refine takeE (i := 1) (d := some 14) (v := .pointer (some ⟨g, 0, none⟩)) rfl (by kernel_rfl) (by kernel_rfl) (by kernel_rfl) rfl (fun _ _ _ h => h) (Or.inl ⟨by kernel_rfl, fun w1 hS1 => by (try dsimp only at hS1); go_simp⟩) hHeld ?_
  simp only [Act.put, List.setIfInBounds_toArray, List.set_cons_zero, List.set_cons_succ]
  refine takeE (i := 2) (d := some 15) (v := .int .i64 x0) rfl (by kernel_rfl) (by kernel_rfl) (by kernel_rfl) rfl (fun _ _ _ h => h) (Or.inl ⟨by kernel_rfl, fun w1 hS1 => by (try dsimp only at hS1); go_simp⟩) hHeld ?_
  simp only [Act.put, List.setIfInBounds_toArray, List.set_cons_zero, List.set_cons_succ]
  refine takeE (i := 3) (d := some 16) (v := .slice (some ⟨g, 0, none⟩) 6 cap) rfl (by kernel_rfl) (by kernel_rfl) (by kernel_rfl) rfl (fun _ _ _ h => h) (Or.inl ⟨by kernel_rfl, fun w1 hS1 => by rfl⟩) hHeld ?_
  simp only [Act.put, List.setIfInBounds_toArray, List.set_cons_zero, List.set_cons_succ]
  refine takeE (i := 4) (d := some 17) (v := .pointer (some ⟨g, 1, none⟩)) rfl (by kernel_rfl) (by kernel_rfl) (by kernel_rfl) rfl (fun _ _ _ h => h) (Or.inl ⟨by kernel_rfl, fun w1 hS1 => by (try dsimp only at hS1); go_simp⟩) hHeld ?_
  simp only [Act.put, List.setIfInBounds_toArray, List.set_cons_zero, List.set_cons_succ]
  refine takeE (i := 5) (d := some 18) (v := .int .i64 x1) rfl (by kernel_rfl) (by kernel_rfl) (by kernel_rfl) rfl (fun _ _ _ h => h) (Or.inl ⟨by kernel_rfl, fun w1 hS1 => by (try dsimp only at hS1); go_simp⟩) hHeld ?_
  simp only [Act.put, List.setIfInBounds_toArray, List.set_cons_zero, List.set_cons_succ]
  refine takeE (i := 7) (d := some 20) (v := .slice (some ⟨g, 0, none⟩) 6 cap) rfl (by kernel_rfl) (by kernel_rfl) (by kernel_rfl) rfl (fun _ _ _ h => h) (Or.inl ⟨by kernel_rfl, fun w1 hS1 => by rfl⟩) hHeld ?_
  simp only [Act.put, List.setIfInBounds_toArray, List.set_cons_zero, List.set_cons_succ]
  refine takeE (i := 8) (d := some 21) (v := .pointer (some ⟨g, 1, none⟩)) rfl (by kernel_rfl) (by kernel_rfl) (by kernel_rfl) rfl (fun _ _ _ h => h) (Or.inl ⟨by kernel_rfl, fun w1 hS1 => by (try dsimp only at hS1); go_simp⟩) hHeld ?_
  simp only [Act.put, List.setIfInBounds_toArray, List.set_cons_zero, List.set_cons_succ]
  refine takeE (i := 9) (d := some 22) (v := .int .i64 x1) rfl (by kernel_rfl) (by kernel_rfl) (by kernel_rfl) rfl (fun _ _ _ h => h) (Or.inl ⟨by kernel_rfl, fun w1 hS1 => by (try dsimp only at hS1); go_simp⟩) hHeld ?_
  simp only [Act.put, List.setIfInBounds_toArray, List.set_cons_zero, List.set_cons_succ]
  refine takeE (i := 10) (d := some 23) (v := .slice (some ⟨g, 0, none⟩) 6 cap) rfl (by kernel_rfl) (by kernel_rfl) (by kernel_rfl) rfl (fun _ _ _ h => h) (Or.inl ⟨by kernel_rfl, fun w1 hS1 => by rfl⟩) hHeld ?_
  simp only [Act.put, List.setIfInBounds_toArray, List.set_cons_zero, List.set_cons_succ]
  refine takeE (i := 11) (d := some 24) (v := .pointer (some ⟨g, 2, none⟩)) rfl (by kernel_rfl) (by kernel_rfl) (by kernel_rfl) rfl (fun _ _ _ h => h) (Or.inl ⟨by kernel_rfl, fun w1 hS1 => by (try dsimp only at hS1); go_simp⟩) hHeld ?_
  simp only [Act.put, List.setIfInBounds_toArray, List.set_cons_zero, List.set_cons_succ]
  refine takeE (i := 12) (d := some 25) (v := .int .i64 x2) rfl (by kernel_rfl) (by kernel_rfl) (by kernel_rfl) rfl (fun _ _ _ h => h) (Or.inl ⟨by kernel_rfl, fun w1 hS1 => by (try dsimp only at hS1); go_simp⟩) hHeld ?_
  simp only [Act.put, List.setIfInBounds_toArray, List.set_cons_zero, List.set_cons_succ]
  refine takeE (i := 14) (d := some 27) (v := .slice (some ⟨g, 0, none⟩) 6 cap) rfl (by kernel_rfl) (by kernel_rfl) (by kernel_rfl) rfl (fun _ _ _ h => h) (Or.inl ⟨by kernel_rfl, fun w1 hS1 => by rfl⟩) hHeld ?_
  simp only [Act.put, List.setIfInBounds_toArray, List.set_cons_zero, List.set_cons_succ]
  refine takeE (i := 15) (d := some 28) (v := .pointer (some ⟨g, 3, none⟩)) rfl (by kernel_rfl) (by kernel_rfl) (by kernel_rfl) rfl (fun _ _ _ h => h) (Or.inl ⟨by kernel_rfl, fun w1 hS1 => by (try dsimp only at hS1); go_simp⟩) hHeld ?_
  simp only [Act.put, List.setIfInBounds_toArray, List.set_cons_zero, List.set_cons_succ]
  refine takeE (i := 16) (d := some 29) (v := .int .i64 x3) rfl (by kernel_rfl) (by kernel_rfl) (by kernel_rfl) rfl (fun _ _ _ h => h) (Or.inl ⟨by kernel_rfl, fun w1 hS1 => by (try dsimp only at hS1); go_simp⟩) hHeld ?_
  simp only [Act.put, List.setIfInBounds_toArray, List.set_cons_zero, List.set_cons_succ]
  refine takeE (i := 17) (d := some 30) (v := .slice (some ⟨g, 0, none⟩) 6 cap) rfl (by kernel_rfl) (by kernel_rfl) (by kernel_rfl) rfl (fun _ _ _ h => h) (Or.inl ⟨by kernel_rfl, fun w1 hS1 => by rfl⟩) hHeld ?_
  simp only [Act.put, List.setIfInBounds_toArray, List.set_cons_zero, List.set_cons_succ]
  refine takeE (i := 18) (d := some 31) (v := .pointer (some ⟨g, 4, none⟩)) rfl (by kernel_rfl) (by kernel_rfl) (by kernel_rfl) rfl (fun _ _ _ h => h) (Or.inl ⟨by kernel_rfl, fun w1 hS1 => by (try dsimp only at hS1); go_simp⟩) hHeld ?_
  simp only [Act.put, List.setIfInBounds_toArray, List.set_cons_zero, List.set_cons_succ]
  refine takeE (i := 19) (d := some 32) (v := .int .i64 x4) rfl (by kernel_rfl) (by kernel_rfl) (by kernel_rfl) rfl (fun _ _ _ h => h) (Or.inl ⟨by kernel_rfl, fun w1 hS1 => by (try dsimp only at hS1); go_simp⟩) hHeld ?_
  simp only [Act.put, List.setIfInBounds_toArray, List.set_cons_zero, List.set_cons_succ]
  refine takeE (i := 21) (d := some 34) (v := .slice (some ⟨g, 0, none⟩) 6 cap) rfl (by kernel_rfl) (by kernel_rfl) (by kernel_rfl) rfl (fun _ _ _ h => h) (Or.inl ⟨by kernel_rfl, fun w1 hS1 => by rfl⟩) hHeld ?_
  simp only [Act.put, List.setIfInBounds_toArray, List.set_cons_zero, List.set_cons_succ]
  refine takeE (i := 22) (d := some 35) (v := .pointer (some ⟨g, 4, none⟩)) rfl (by kernel_rfl) (by kernel_rfl) (by kernel_rfl) rfl (fun _ _ _ h => h) (Or.inl ⟨by kernel_rfl, fun w1 hS1 => by (try dsimp only at hS1); go_simp⟩) hHeld ?_
  simp only [Act.put, List.setIfInBounds_toArray, List.set_cons_zero, List.set_cons_succ]
  refine takeE (i := 23) (d := some 36) (v := .int .i64 x4) rfl (by kernel_rfl) (by kernel_rfl) (by kernel_rfl) rfl (fun _ _ _ h => h) (Or.inl ⟨by kernel_rfl, fun w1 hS1 => by (try dsimp only at hS1); go_simp⟩) hHeld ?_
  simp only [Act.put, List.setIfInBounds_toArray, List.set_cons_zero, List.set_cons_succ]
  refine takeE (i := 24) (d := some 37) (v := .slice (some ⟨g, 0, none⟩) 6 cap) rfl (by kernel_rfl) (by kernel_rfl) (by kernel_rfl) rfl (fun _ _ _ h => h) (Or.inl ⟨by kernel_rfl, fun w1 hS1 => by rfl⟩) hHeld ?_
  simp only [Act.put, List.setIfInBounds_toArray, List.set_cons_zero, List.set_cons_succ]
  refine takeE (i := 25) (d := some 38) (v := .pointer (some ⟨g, 5, none⟩)) rfl (by kernel_rfl) (by kernel_rfl) (by kernel_rfl) rfl (fun _ _ _ h => h) (Or.inl ⟨by kernel_rfl, fun w1 hS1 => by (try dsimp only at hS1); go_simp⟩) hHeld ?_
  simp only [Act.put, List.setIfInBounds_toArray, List.set_cons_zero, List.set_cons_succ]
  refine takeE (i := 26) (d := some 39) (v := .int .i64 x5) rfl (by kernel_rfl) (by kernel_rfl) (by kernel_rfl) rfl (fun _ _ _ h => h) (Or.inl ⟨by kernel_rfl, fun w1 hS1 => by (try dsimp only at hS1); go_simp⟩) hHeld ?_
  simp only [Act.put, List.setIfInBounds_toArray, List.set_cons_zero, List.set_cons_succ]
  refine wpAnyH_ready (rs := [6]) (by kernel_rfl) (by simp) ?_
  refine AllReadyH.cons rfl (fun K hK => ?_) AllReadyH.nil
  go_simp
  go_at_call 49
  refine (l07Differ_any x0 x1 _).mono ?_
  rintro e wx ⟨rfl, hwx⟩
  subst wx
  (try go_simp)
  refine hK.out _ _ hHeld (fun hHeld => ?_)
  clear hK K
  (try simp only [Act.put, List.setIfInBounds_toArray, List.set_cons_zero, List.set_cons_succ])
  refine wpAnyH_ready (rs := [13]) (by kernel_rfl) (by simp) ?_
  refine AllReadyH.cons rfl (fun K hK => ?_) AllReadyH.nil
  go_simp
  go_at_call 49
  refine (l07Differ_any x1 x2 _).mono ?_
  rintro e wx ⟨rfl, hwx⟩
  subst wx
  (try go_simp)
  refine hK.out _ _ hHeld (fun hHeld => ?_)
  clear hK K
  (try simp only [Act.put, List.setIfInBounds_toArray, List.set_cons_zero, List.set_cons_succ])
  refine wpAnyH_ready (rs := [20]) (by kernel_rfl) (by simp) ?_
  refine AllReadyH.cons rfl (fun K hK => ?_) AllReadyH.nil
  go_simp
  go_at_call 49
  refine (l07Differ_any x3 x4 _).mono ?_
  rintro e wx ⟨rfl, hwx⟩
  subst wx
  (try go_simp)
  refine hK.out _ _ hHeld (fun hHeld => ?_)
  clear hK K
  (try simp only [Act.put, List.setIfInBounds_toArray, List.set_cons_zero, List.set_cons_succ])
  refine wpAnyH_ready (rs := [27]) (by kernel_rfl) (by simp) ?_
  refine AllReadyH.cons rfl (fun K hK => ?_) AllReadyH.nil
  go_simp
  go_at_call 49
  refine (l07Differ_any x4 x5 _).mono ?_
  rintro e wx ⟨rfl, hwx⟩
  subst wx
  (try go_simp)
  refine hK.out _ _ hHeld (fun hHeld => ?_)
  clear hK K
  (try simp only [Act.put, List.setIfInBounds_toArray, List.set_cons_zero, List.set_cons_succ])
  refine wpAnyH_ready (rs := [28]) (by kernel_rfl) (by simp) ?_
  refine AllReadyH.cons rfl (fun K hK => ?_) AllReadyH.nil
  go_simp
  refine hK.out _ _ (held6 hHeld _) (fun hHeld2 => ?_)
  clear hK K
  (try simp only [Act.put, List.setIfInBounds_toArray, List.set_cons_zero, List.set_cons_succ])
  have hHeld1 := hHeld
  clear hHeld
  have hHeld := hHeld2
  clear hHeld2
  refine takeE (i := 29) (d := some 4) (v := _) rfl (by kernel_rfl) (by kernel_rfl) (by kernel_rfl) rfl (fun _ _ _ h => h) (Or.inl ⟨by kernel_rfl, fun w1 hS1 => by rfl⟩) hHeld ?_
  simp only [Act.put, List.setIfInBounds_toArray, List.set_cons_zero, List.set_cons_succ]
  refine wpAnyH_done (by kernel_rfl) ?_ _
  go_wp2
  go_ret
  exact ⟨_, rfl, bin_row _ _ (by have := hHeld1.2.2.2.2.2.2.size; omega) _ _ _ _ _ rfl, hHeld1.2.2.2.2.2.2.more _⟩

theorem KeyOf_any (a h s q : Int) (hq : q < 2 ^ 63) (w : World) :
    Calls Try.prog 29 #[.agg #[.int .i64 a, .int .i64 h, .int .i64 s], .int .i64 q] w (RetI w (keyL a h s q)) := by
  cases h1 : pOk a h s q
  · rw [keyL_no h1]; exact KeyOf_no a h s q hq h1 w
  · exact KeyOf_yes a h s q hq h1 w

theorem specKeyOf_any (a h s q : Int) (hq : q < 2 ^ 63) (w : World) :
    Calls Try.prog 28 #[.agg #[.int .i64 a, .int .i64 h, .int .i64 s], .int .i64 q] w (RetI w (keyL a h s q)) := by
  cases h1 : pOk a h s q
  · rw [keyL_no h1]; exact specKeyOf_no a h s q hq h1 w
  · exact specKeyOf_yes a h s q hq h1 w

theorem KeyNumber_no (a h s q : Int) (hq : q < 2 ^ 63) (h1 : pOk a h s q = false) (w : World) :
    Calls Try.prog 25 #[.agg #[.int .i64 a, .int .i64 h, .int .i64 s], .int .i64 q] w fun e w' => e = .returned (.int .i64 (-1)) ∧ Below w.heap.size w w' := by
  have hc := KeyOf_any a h s q hq
  rw [keyL_no h1] at hc
  have HC := Lib.hid hc
  clear hc
  go_enter Try.func25, Try.ntmps25
  go_wp2_with fail
  refine (HC.out _).mono ?_
  rintro e w1 hr
  obtain ⟨v, rfl, hr1, hB1⟩ := hr
  obtain ⟨pa, cap, rfl⟩ := RowI.nil2 hr1
  go_wp2
  go_ret
  exact ⟨rfl, (below1 _ _).andThen hB1⟩

set_option maxHeartbeats 800000 in
theorem KeyNumber_yes (a h s q : Int) (hq : q < 2 ^ 63) (h1 : pOk a h s q = true) (w : World) :
    Calls Try.prog 25 #[.agg #[.int .i64 a, .int .i64 h, .int .i64 s], .int .i64 q] w fun e w' => e = .returned (.int .i64 (keyNum (keyL a h s q))) ∧ Below w.heap.size w w' := by
  have hc := KeyOf_any a h s q hq
  obtain ⟨x, y, z, u, e0, hx, hy, hz, hu⟩ := keyL_bin h1
  rw [e0] at hc ⊢
  have HC := Lib.hid hc
  clear hc e0
  go_enter Try.func25, Try.ntmps25
  go_wp2_with fail
  refine (HC.out _).mono ?_
  rintro e w1 hr
  obtain ⟨v, rfl, hr1, hB1⟩ := hr
  obtain ⟨g, cap, rfl, hg, e0, e1, e2, e3⟩ := four_at hr1
  have hbb := Lib.hid ((below1 _ _).andThen hB1)
  clear hr1 hB1
  go_wp2_with fail
  go_quiet (fail)
  go_wp2
  go_ret
  have hw : wrap64 (wrap64 (wrap64 (x + wrap64 (2 * y)) + wrap64 (4 * z)) + wrap64 (8 * u)) = x + 2 * y + 4 * z + 8 * u := by unfold wrap64; omega
  exact ⟨by first | rfl | (rw [show keyNum [x, y, z, u] = x + 2 * y + 4 * z + 8 * u from rfl, ← hw]; rfl), hbb.out.andThen (Joins.below_draws _ _ _)⟩

theorem KeyNumber_any (a h s q : Int) (hq : q < 2 ^ 63) (w : World) :
    Calls Try.prog 25 #[.agg #[.int .i64 a, .int .i64 h, .int .i64 s], .int .i64 q] w fun e w' => e = .returned (.int .i64 (keyN a h s q)) ∧ Below w.heap.size w w' := by
  unfold keyN
  cases h1 : pOk a h s q
  · exact KeyNumber_no a h s q hq h1 w
  · exact KeyNumber_yes a h s q hq h1 w

theorem specKeyNumber_no (a h s q : Int) (hq : q < 2 ^ 63) (h1 : pOk a h s q = false) (w : World) :
    Calls Try.prog 24 #[.agg #[.int .i64 a, .int .i64 h, .int .i64 s], .int .i64 q] w fun e w' => e = .returned (.int .i64 (-1)) ∧ Below w.heap.size w w' := by
  have hc := specKeyOf_any a h s q hq
  rw [keyL_no h1] at hc
  have HC := Lib.hid hc
  clear hc
  go_enter Try.func24, Try.ntmps24
  go_wp2_with fail
  refine (HC.out _).mono ?_
  rintro e w1 hr
  obtain ⟨v, rfl, hr1, hB1⟩ := hr
  obtain ⟨pa, cap, rfl⟩ := RowI.nil2 hr1
  go_wp2
  go_ret
  exact ⟨rfl, (below1 _ _).andThen hB1⟩

set_option maxHeartbeats 800000 in
theorem specKeyNumber_yes (a h s q : Int) (hq : q < 2 ^ 63) (h1 : pOk a h s q = true) (w : World) :
    Calls Try.prog 24 #[.agg #[.int .i64 a, .int .i64 h, .int .i64 s], .int .i64 q] w fun e w' => e = .returned (.int .i64 (keyNum (keyL a h s q))) ∧ Below w.heap.size w w' := by
  have hc := specKeyOf_any a h s q hq
  obtain ⟨x, y, z, u, e0, hx, hy, hz, hu⟩ := keyL_bin h1
  rw [e0] at hc ⊢
  have HC := Lib.hid hc
  clear hc e0
  go_enter Try.func24, Try.ntmps24
  go_wp2_with fail
  refine (HC.out _).mono ?_
  rintro e w1 hr
  obtain ⟨v, rfl, hr1, hB1⟩ := hr
  obtain ⟨g, cap, rfl, hg, e0, e1, e2, e3⟩ := four_at hr1
  have hbb := Lib.hid ((below1 _ _).andThen hB1)
  clear hr1 hB1
  go_wp2_with fail
  go_quiet (fail)
  go_wp2
  go_ret
  have hw : wrap64 (wrap64 (wrap64 (x + wrap64 (2 * y)) + wrap64 (4 * z)) + wrap64 (8 * u)) = x + 2 * y + 4 * z + 8 * u := by unfold wrap64; omega
  exact ⟨by first | rfl | (rw [show keyNum [x, y, z, u] = x + 2 * y + 4 * z + 8 * u from rfl, ← hw]; rfl), hbb.out.andThen (Joins.below_draws _ _ _)⟩

theorem specKeyNumber_any (a h s q : Int) (hq : q < 2 ^ 63) (w : World) :
    Calls Try.prog 24 #[.agg #[.int .i64 a, .int .i64 h, .int .i64 s], .int .i64 q] w fun e w' => e = .returned (.int .i64 (keyN a h s q)) ∧ Below w.heap.size w w' := by
  unfold keyN
  cases h1 : pOk a h s q
  · exact specKeyNumber_no a h s q hq h1 w
  · exact specKeyNumber_yes a h s q hq h1 w

end Go.Proofs.Ytmnnpfgmdojpmaa
