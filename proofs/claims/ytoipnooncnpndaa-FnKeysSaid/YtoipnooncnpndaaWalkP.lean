/-
  The walks of isLine, l05Is, touches, LinesThrough, IsLoneHole.
-/
import Derived.Test.YtoipnooncnpndaaWalkO
namespace Go.Proofs.Ytoipnooncnpndaa
open Go.RowKit
open Peg
set_option linter.unusedVariables false

theorem find_some {ls : List Ln} {f t : Int} {m : Ln} (h : findL ls f t = some m) : m.a = f ∧ m.c = t ∧ m ∈ ls := by
  unfold findL at h
  have h1 := List.find?_some h
  have h2 := List.mem_of_find?_eq_some h
  simp only [Bool.and_eq_true, beq_iff_eq] at h1
  exact ⟨h1.1, h1.2, h2⟩

/-- Is the line one of the list (the first from its one end to its other)? -/
def isL (ls : List Ln) (la lb lc : Int) : Bool := match findL ls la lc with
  | some m => m.b == lb
  | none => false

theorem LineBetween_none (a h s f t : Int) (hn : findL (linesL a h s) f t = none) (w : World) :
    Calls Try.prog 19 #[.agg #[.int .i64 a, .int .i64 h, .int .i64 s], .int .i64 f, .int .i64 t] w fun e w' => e = .returned (.tuple #[.agg #[.int .i64 0, .int .i64 0, .int .i64 0], .bool false]) ∧ Below w.heap.size w w' := by
  have := LineBetween_any a h s f t w
  rw [hn] at this; exact this

theorem LineBetween_some (a h s f t : Int) (m : Ln) (hn : findL (linesL a h s) f t = some m) (w : World) :
    Calls Try.prog 19 #[.agg #[.int .i64 a, .int .i64 h, .int .i64 s], .int .i64 f, .int .i64 t] w fun e w' => e = .returned (.tuple #[.agg #[.int .i64 f, .int .i64 m.b, .int .i64 t], .bool true]) ∧ Below w.heap.size w w' := by
  have h1 := find_some hn
  have := LineBetween_any a h s f t w
  rw [hn] at this
  rw [← h1.1, ← h1.2.1]
  rw [← h1.1, ← h1.2.1] at this
  exact this

set_option maxHeartbeats 400000 in
theorem isLine_none (a h s la lb lc : Int) (hn : findL (linesL a h s) la lc = none) (w : World) :
    Calls Try.prog 74 #[.agg #[.int .i64 a, .int .i64 h, .int .i64 s], .agg #[.int .i64 la, .int .i64 lb, .int .i64 lc]] w fun e w' => e = .returned (.bool false) ∧ Below w.heap.size w w' := by
  have Hn := Lib.hid hn
  clear hn
  go_enter Try.func74, Try.ntmps74
  go_wp2_with fail
  refine (LineBetween_none _ _ _ _ _ Hn.out _).mono ?_
  rintro e w1 ⟨rfl, hB1⟩
  go_wp2
  go_ret
  exact ⟨rfl, ((Joins.below_alloc2 _ _ _).andThen hB1).more _⟩

set_option maxHeartbeats 400000 in
theorem isLine_some (b : Bool) (a h s la lb lc : Int) (m : Ln) (hn : findL (linesL a h s) la lc = some m) (hb : (m.b == lb) = b) (w : World) :
    Calls Try.prog 74 #[.agg #[.int .i64 a, .int .i64 h, .int .i64 s], .agg #[.int .i64 la, .int .i64 lb, .int .i64 lc]] w fun e w' => e = .returned (.bool b) ∧ Below w.heap.size w w' := by
  have Hn := Lib.hid hn
  clear hn
  cases b
  all_goals
    go_enter Try.func74, Try.ntmps74
    have X0 := BoxAt.new (w.alloc (.cells #[.int .i64 a, .int .i64 h, .int .i64 s] 26)) la lb lc 38
    go_wp2_with fail
    refine (LineBetween_some _ _ _ _ _ m Hn.out _).mono ?_
    rintro e w1 ⟨rfl, hB1⟩
    obtain ⟨c0, c1, c2, cz⟩ := X0.below hB1
    simp only [World.size_alloc] at c0 c1 c2 cz
    go_wp2
    go_ret
    exact ⟨rfl, ((Joins.below_alloc2 _ _ _).andThen hB1).more _⟩

theorem isLine_b (b : Bool) (a h s la lb lc : Int) (hb : isL (linesL a h s) la lb lc = b) (w : World) :
    Calls Try.prog 74 #[.agg #[.int .i64 a, .int .i64 h, .int .i64 s], .agg #[.int .i64 la, .int .i64 lb, .int .i64 lc]] w fun e w' => e = .returned (.bool b) ∧ Below w.heap.size w w' := by
  unfold isL at hb
  cases hf : findL (linesL a h s) la lc with
  | none => rw [hf] at hb; subst hb; exact isLine_none a h s la lb lc hf w
  | some m => rw [hf] at hb; exact isLine_some b a h s la lb lc m hf hb w

theorem specLineBetween_none (a h s f t : Int) (hn : findL (linesL a h s) f t = none) (w : World) :
    Calls Try.prog 93 #[.agg #[.int .i64 a, .int .i64 h, .int .i64 s], .int .i64 f, .int .i64 t] w fun e w' => e = .returned (.tuple #[.agg #[.int .i64 0, .int .i64 0, .int .i64 0], .bool false]) ∧ Below w.heap.size w w' := by
  have := specLineBetween_any a h s f t w
  rw [hn] at this; exact this

theorem specLineBetween_some (a h s f t : Int) (m : Ln) (hn : findL (linesL a h s) f t = some m) (w : World) :
    Calls Try.prog 93 #[.agg #[.int .i64 a, .int .i64 h, .int .i64 s], .int .i64 f, .int .i64 t] w fun e w' => e = .returned (.tuple #[.agg #[.int .i64 f, .int .i64 m.b, .int .i64 t], .bool true]) ∧ Below w.heap.size w w' := by
  have h1 := find_some hn
  have := specLineBetween_any a h s f t w
  rw [hn] at this
  rw [← h1.1, ← h1.2.1]
  rw [← h1.1, ← h1.2.1] at this
  exact this

set_option maxHeartbeats 400000 in
theorem specl05Is_none (a h s la lb lc : Int) (hn : findL (linesL a h s) la lc = none) (w : World) :
    Calls Try.prog 92 #[.agg #[.int .i64 a, .int .i64 h, .int .i64 s], .agg #[.int .i64 la, .int .i64 lb, .int .i64 lc]] w fun e w' => e = .returned (.bool false) ∧ Below w.heap.size w w' := by
  have Hn := Lib.hid hn
  clear hn
  go_enter Try.func92, Try.ntmps92
  go_wp2_with fail
  refine (specLineBetween_none _ _ _ _ _ Hn.out _).mono ?_
  rintro e w1 ⟨rfl, hB1⟩
  go_wp2
  go_ret
  exact ⟨rfl, ((Joins.below_alloc2 _ _ _).andThen hB1).more _⟩

set_option maxHeartbeats 400000 in
theorem specl05Is_some (b : Bool) (a h s la lb lc : Int) (m : Ln) (hn : findL (linesL a h s) la lc = some m) (hb : (m.b == lb) = b) (w : World) :
    Calls Try.prog 92 #[.agg #[.int .i64 a, .int .i64 h, .int .i64 s], .agg #[.int .i64 la, .int .i64 lb, .int .i64 lc]] w fun e w' => e = .returned (.bool b) ∧ Below w.heap.size w w' := by
  have Hn := Lib.hid hn
  clear hn
  cases b
  all_goals
    go_enter Try.func92, Try.ntmps92
    have X0 := BoxAt.new (w.alloc (.cells #[.int .i64 a, .int .i64 h, .int .i64 s] 26)) la lb lc 38
    go_wp2_with fail
    refine (specLineBetween_some _ _ _ _ _ m Hn.out _).mono ?_
    rintro e w1 ⟨rfl, hB1⟩
    obtain ⟨c0, c1, c2, cz⟩ := X0.below hB1
    simp only [World.size_alloc] at c0 c1 c2 cz
    go_wp2
    go_ret
    exact ⟨rfl, ((Joins.below_alloc2 _ _ _).andThen hB1).more _⟩

theorem specl05Is_b (b : Bool) (a h s la lb lc : Int) (hb : isL (linesL a h s) la lb lc = b) (w : World) :
    Calls Try.prog 92 #[.agg #[.int .i64 a, .int .i64 h, .int .i64 s], .agg #[.int .i64 la, .int .i64 lb, .int .i64 lc]] w fun e w' => e = .returned (.bool b) ∧ Below w.heap.size w w' := by
  unfold isL at hb
  cases hf : findL (linesL a h s) la lc with
  | none => rw [hf] at hb; subst hb; exact specl05Is_none a h s la lb lc hf w
  | some m => rw [hf] at hb; exact specl05Is_some b a h s la lb lc m hf hb w

/-- Is the hole one of the line's three? -/
def onL (l : Ln) (k : Int) : Bool := l.a == k || (l.b == k || l.c == k)
def throughL (a h s k : Int) : List Ln := (linesL a h s).filter (onL · k)

theorem touches_b (b : Bool) (la lb lc k : Int) (hb : onL ⟨la, lb, lc⟩ k = b) (w : World) :
    Calls Try.prog 65 #[.agg #[.int .i64 la, .int .i64 lb, .int .i64 lc], .int .i64 k] w fun e w' => e = .returned (.bool b) ∧ Below w.heap.size w w' := by
  subst hb
  unfold onL
  cases h1 : (la == k) <;> cases h2 : (lb == k) <;> cases h3 : (lc == k)
  all_goals
    go_enter Try.func65, Try.ntmps65
    go_wp2
    go_ret
    exact ⟨rfl, below1 _ _⟩

end Go.Proofs.Ytoipnooncnpndaa
