/-
  The walks of the functions that look through the lines of a board.
-/
import Derived.Test.YtoipnooncnpndaaWalkM
import Derived.Test.YtoipnooncnpndaaWalkN
namespace Go.Proofs.Ytoipnooncnpndaa
open Go.RowKit
open Peg
set_option linter.unusedVariables false

/-- The lines of a board, or none if it is not valid. -/
def linesL (a h s : Int) : List Ln := if bOk a h s then linesF a.toNat h.toNat s.toNat else []
theorem linesL_ok {W H S : Nat} (ok : Ok W H S) : linesL W H S = linesF W H S := by unfold linesL; rw [bOk_of ok]; simp
theorem linesL_no {a h s : Int} (hb : bOk a h s = false) : linesL a h s = [] := by unfold linesL; rw [hb]; rfl
theorem linesL_short (a h s : Int) : (linesL a h s).length ≤ 196 := by
  cases hb : bOk a h s
  · rw [linesL_no hb]; decide
  · obtain ⟨W, H, S, rfl, rfl, rfl, ok⟩ := (bOk_iff _ _ _).1 hb
    rw [linesL_ok ok, ← linesTo_all]
    have h1 := linesTo_le W H S (holesN S (W * H)).length
    have h2 := holesN_le S (W * H)
    have h3 := ok.area
    omega

theorem RowI.nil {w : World} {B : Nat} {v : Value} (h : RowI w B v []) : ∃ a cap, v = .slice a 0 cap := by
  rcases h.forms with ⟨_, a, cap, hv⟩ | ⟨hx, _⟩
  · exact ⟨a, cap, hv⟩
  · simp at hx

theorem RowL.kept {w w' : World} {B : Nat} {v : Value} {ls : List Ln} (h : RowL w B v ls) (hb : Below w.heap.size w w') : RowL w' B v ls := RowX.kept h hb
theorem RowL.le {w : World} {B B' : Nat} {v : Value} {ls : List Ln} (h : RowL w B v ls) (hb : B' ≤ B) : RowL w B' v ls := RowX.le h hb
theorem RowL.forms {w : World} {B : Nat} {v : Value} {ls : List Ln} (h : RowL w B v ls) :
    (ls = [] ∧ ∃ a cap, v = .slice a 0 cap) ∨ (0 < ls.length ∧ ∃ g cap, v = .slice (some ⟨g, 0, none⟩) ls.length cap ∧ B ≤ g ∧ g < w.heap.size) := by
  rcases RowX.forms h with ⟨h0, a, cap, hv⟩ | ⟨hx, g, cap, hv, hb, hg, _⟩
  · exact .inl ⟨List.eq_nil_of_length_eq_zero h0, a, cap, hv⟩
  · exact .inr ⟨hx, g, cap, hv, hb, hg⟩

/-- A result variable of three numbers that the call itself has laid. -/
structure VarAt (n : Nat) (w : World) (a h s : Int) : Prop where
  c0 : w.cell? ⟨n, 0, none⟩ = some (.int .i64 a)
  c1 : w.cell? ⟨n, 1, none⟩ = some (.int .i64 h)
  c2 : w.cell? ⟨n, 2, none⟩ = some (.int .i64 s)
  f0 : w.frozen? ⟨n, 0, none⟩ = false
  f1 : w.frozen? ⟨n, 1, none⟩ = false
  f2 : w.frozen? ⟨n, 2, none⟩ = false
  sz : n < w.heap.size
theorem VarAt.new (w : World) (a h s : Int) (t : TypeId) (n : Nat) (hn : n = w.heap.size) : VarAt n (w.alloc (.cells #[.int .i64 a, .int .i64 h, .int .i64 s] t)) a h s := by
  subst hn
  exact ⟨by rw [World.cell?_alloc_at _ _ _ _ rfl]; rfl, by rw [World.cell?_alloc_at _ _ _ _ rfl]; rfl, by rw [World.cell?_alloc_at _ _ _ _ rfl]; rfl, World.frozen?_alloc_at _ _ _ _ rfl, World.frozen?_alloc_at _ _ _ _ rfl, World.frozen?_alloc_at _ _ _ _ rfl, by simp⟩
theorem VarAt.below {n : Nat} {w w' : World} {a h s : Int} (b : VarAt n w a h s) (hb : Below w.heap.size w w') : VarAt n w' a h s :=
  ⟨(hb.cell (p := ⟨n, 0, none⟩) b.sz).trans b.c0, (hb.cell (p := ⟨n, 1, none⟩) b.sz).trans b.c1, (hb.cell (p := ⟨n, 2, none⟩) b.sz).trans b.c2,
    (hb.frozen (p := ⟨n, 0, none⟩) b.sz).trans b.f0, (hb.frozen (p := ⟨n, 1, none⟩) b.sz).trans b.f1, (hb.frozen (p := ⟨n, 2, none⟩) b.sz).trans b.f2, Nat.lt_of_lt_of_le b.sz hb.size⟩
theorem read3 {w : World} {b : Nat} {a0 a1 a2 : Value} (v0 v1 v2 : Value) (h0 : w.cell? ⟨b, 0, none⟩ = some a0) (h1 : w.cell? ⟨b, 1, none⟩ = some a1) (h2 : w.cell? ⟨b, 2, none⟩ = some a2) :
    (w.setCell ⟨b, 0, none⟩ v0).cell? ⟨b, 0, none⟩ = some v0 ∧ ((w.setCell ⟨b, 0, none⟩ v0).setCell ⟨b, 1, none⟩ v1).cell? ⟨b, 1, none⟩ = some v1 ∧
      (((w.setCell ⟨b, 0, none⟩ v0).setCell ⟨b, 1, none⟩ v1).setCell ⟨b, 2, none⟩ v2).cell? ⟨b, 2, none⟩ = some v2 := by
  have e1 : (w.setCell ⟨b, 0, none⟩ v0).cell? ⟨b, 1, none⟩ = some a1 := (World.cell?_setCell_other _ _ _ _ (by simp)).trans h1
  have e2 : ((w.setCell ⟨b, 0, none⟩ v0).setCell ⟨b, 1, none⟩ v1).cell? ⟨b, 2, none⟩ = some a2 := (World.cell?_setCell_other _ _ _ _ (by simp)).trans ((World.cell?_setCell_other _ _ _ _ (by simp)).trans h2)
  exact ⟨World.cell?_setCell_same _ _ _ h0, World.cell?_setCell_same _ _ _ e1, World.cell?_setCell_same _ _ _ e2⟩
theorem below_set3 {w wr : World} {b : Nat} (h : Below w.heap.size w wr) (hb : w.heap.size ≤ b) (v0 v1 v2 : Value) : Below w.heap.size w (((wr.setCell ⟨b, 0, none⟩ v0).setCell ⟨b, 1, none⟩ v1).setCell ⟨b, 2, none⟩ v2) :=
  ((h.setCell hb _).setCell hb _).setCell hb _

/-- The first line from one hole to another. -/
def findL (ls : List Ln) (f t : Int) : Option Ln := ls.find? fun l => l.a == f && l.c == t
def lnOf (o : Option Ln) : Ln := o.getD ⟨0, 0, 0⟩
theorem find_here {ls : List Ln} {f t : Int} {i : Nat} (h : i < ls.length) (hno : ∀ j (hj : j < i), ¬ ((ls[j]'(by omega)).a = f ∧ (ls[j]'(by omega)).c = t)) (ha : ls[i].a = f) (hc : ls[i].c = t) : findL ls f t = some ls[i] := by
  unfold findL
  rw [List.find?_eq_some_iff_getElem]
  refine ⟨by simp [ha, hc], i, h, rfl, fun j hj => ?_⟩
  have := hno j hj
  simp only [Bool.not_eq_true', Bool.and_eq_false_iff, beq_eq_false_iff_ne, ne_eq]
  by_cases e : (ls[j]'(by omega)).a = f
  · exact .inr (fun e2 => this ⟨e, e2⟩)
  · exact .inl e
theorem find_none {ls : List Ln} {f t : Int} (hno : ∀ j (hj : j < ls.length), ¬ (ls[j].a = f ∧ ls[j].c = t)) : findL ls f t = none := by
  unfold findL
  rw [List.find?_eq_none]
  intro l hl
  obtain ⟨j, hj, rfl⟩ := List.getElem_of_mem hl
  have := hno j hj
  simp only [Bool.and_eq_true, beq_iff_eq]
  exact this

set_option maxRecDepth 100000 in
theorem LinesOf_no (a h s : Int) (w : World) (hb : bOk a h s = false) :
    Calls Try.prog 17 #[.agg #[.int .i64 a, .int .i64 h, .int .i64 s]] w (RetL w []) := by
  go_enter Try.func17, Try.ntmps17
  go_wp2_with fail
  refine (HolesOf_no _ _ _ _ hb).mono ?_
  rintro e ws hr
  obtain ⟨v, rfl, hr1, hB⟩ := hr
  obtain ⟨q, cap, rfl⟩ := hr1.nil
  have R := Lib.hid (RowX.kept (rowNilL (w.alloc (.cells #[.int .i64 a, .int .i64 h, .int .i64 s] 26)) w.heap.size (w.heap.size + 1) (by simp) (by simp)) hB)
  have hBel := Lib.hid (((below1 w (.cells #[.int .i64 a, .int .i64 h, .int .i64 s] 26)).more (.cells #[] 38)).andThen hB)
  clear hr1 hB
  go_wp2_with fail
  refine wp_loop_rounds 1 ?_
  rw [rounds_succ]
  go_wp2
  go_ret
  exact ⟨_, rfl, R.out, hBel.out⟩

theorem LinesOf_any (a h s : Int) (w : World) :
    Calls Try.prog 17 #[.agg #[.int .i64 a, .int .i64 h, .int .i64 s]] w (RetL w (linesL a h s)) := by
  cases hb : bOk a h s
  · rw [linesL_no hb]; exact LinesOf_no a h s w hb
  · obtain ⟨W, H, S, rfl, rfl, rfl, ok⟩ := (bOk_iff _ _ _).1 hb
    rw [linesL_ok ok]
    exact LinesOf_yes W H S ok w

theorem CountLines_any (a h s : Int) (w : World) :
    Calls Try.prog 23 #[.agg #[.int .i64 a, .int .i64 h, .int .i64 s]] w fun e w' => e = .returned (.int .i64 ((linesL a h s).length : Nat)) ∧ Below w.heap.size w w' := by
  go_enter Try.func23, Try.ntmps23
  go_wp2_with fail
  refine (LinesOf_any _ _ _ _).mono ?_
  rintro e ws hr
  obtain ⟨v, rfl, hr1, hB⟩ := hr
  rcases hr1.forms with ⟨h0, q, cap, rfl⟩ | ⟨_, g, cap, rfl, _⟩
  · go_wp2
    go_ret
    exact ⟨by rw [h0]; rfl, (below1 _ _).andThen hB⟩
  · go_wp2
    go_ret
    exact ⟨rfl, (below1 _ _).andThen hB⟩

set_option maxHeartbeats 800000 in
set_option maxRecDepth 100000 in
theorem LineBetween_any (a h s f t : Int) (w : World) :
    Calls Try.prog 19 #[.agg #[.int .i64 a, .int .i64 h, .int .i64 s], .int .i64 f, .int .i64 t] w fun e w' => e = .returned (.tuple #[.agg #[.int .i64 (lnOf (findL (linesL a h s) f t)).a, .int .i64 (lnOf (findL (linesL a h s) f t)).b, .int .i64 (lnOf (findL (linesL a h s) f t)).c], .bool (findL (linesL a h s) f t).isSome]) ∧ Below w.heap.size w w' := by
  have hsh := linesL_short a h s
  obtain ⟨ls, hls⟩ : ∃ ls, linesL a h s = ls := ⟨_, rfl⟩
  rw [hls] at hsh ⊢
  have HL := Lib.hid hls
  clear hls
  obtain ⟨r, hr⟩ : ∃ r, findL ls f t = r := ⟨_, rfl⟩
  rw [hr]
  have HR := Lib.hid hr
  clear hr
  go_enter Try.func19, Try.ntmps19
  have V0 := (VarAt.new (w.alloc (.cells #[.int .i64 a, .int .i64 h, .int .i64 s] 26)) 0 0 0 38 (w.heap.size + 1) (by simp))
  go_wp2_with fail
  refine (LinesOf_any _ _ _ _).mono ?_
  rintro e ws hr
  obtain ⟨v, rfl, hr1, hB⟩ := hr
  rw [HL.out] at hr1
  have V1 := V0.below hB
  have hBel := ((below1 w (.cells #[.int .i64 a, .int .i64 h, .int .i64 s] 26)).more (.cells #[.int .i64 0, .int .i64 0, .int .i64 0] 38)).andThen hB
  clear V0 hB
  rcases hr1.forms with ⟨h0, q, cap, rfl⟩ | ⟨_, g, cap, rfl, _, hgs⟩
  · have hr0 : r = none := by rw [← HR.out, h0]; rfl
    have Hr0 := Lib.hid hr0
    have HBel := Lib.hid hBel
    obtain ⟨c0, c1, c2, f0, f1, f2, sz⟩ := V1
    obtain ⟨q0, q1, q2⟩ := read3 (.int .i64 0) (.int .i64 0) (.int .i64 0) c0 c1 c2
    have HQ := Lib.hid (And.intro q0 (And.intro q1 q2))
    clear hr0 hBel hr1 q0 q1 q2
    go_wp2_with fail
    refine wp_loop_rounds 1 ?_
    rw [rounds_succ]
    go_wp2
    obtain ⟨q0, q1, q2⟩ := HQ.out
    refine bodyPost_ret (v := .tuple #[.agg #[.int .i64 0, .int .i64 0, .int .i64 0], .bool false]) (by simp [results, Try.results19, go_sem, q0, q1, q2]) rfl ⟨by rw [Hr0.out]; rfl, below_set3 HBel.out (by omega) _ _ _⟩
  · have HBel := Lib.hid hBel
    clear hBel
    go_wp2_with fail
    go_loopw [13] (fun j wr => ∃ i : Nat, i ≤ ls.length ∧ j = .int .i64 i ∧ (∀ k (hk : k < i) (hl : k < ls.length), ¬ (ls[k].a = f ∧ ls[k].c = t)) ∧ Below ws.heap.size ws wr) (fun j _ => ls.length - (intOf j).toNat)
    case atStart => exact ⟨0, by omega, rfl, fun k hk => by omega, Below.refl _ _⟩
    case round =>
      obtain ⟨i, hi, rfl, hno, hb⟩ := hrel
      have V2 := V1.below hb
      have Hb := Lib.hid hb
      have Hno := Lib.hid hno
      by_cases hlt : i < ls.length
      · obtain ⟨e0, e1, e2⟩ := (RowL.kept hr1 hb).at i hlt
        obtain ⟨la, hla⟩ : ∃ x, ls[i].a = x := ⟨_, rfl⟩
        obtain ⟨lb, hlb⟩ : ∃ x, ls[i].b = x := ⟨_, rfl⟩
        obtain ⟨lc, hlc⟩ : ∃ x, ls[i].c = x := ⟨_, rfl⟩
        rw [hla] at e0
        rw [hlb] at e1
        rw [hlc] at e2
        have Hla := Lib.hid hla
        have Hlb := Lib.hid hlb
        have Hlc := Lib.hid hlc
        have hgw : g < wr.heap.size := Nat.lt_of_lt_of_le hgs hb.size
        clear hb hno hla hlb hlc
        have Hgo : (la = f → lc = t → False) → Hid (∀ k (hk : k < i + 1) (hl : k < ls.length), ¬ (ls[k].a = f ∧ ls[k].c = t)) := fun hne k hk hl he => by
          by_cases hki : k < i
          · exact Hno.out k hki hl he
          · obtain rfl : k = i := by omega
            exact hne (Hla.out.symm.trans he.1) (Hlc.out.symm.trans he.2)
        have HG := Lib.hid Hgo
        clear Hgo
        by_cases h1 : la = f
        · by_cases h2 : lc = t
          · subst h1 h2
            have hrs : r = some ls[i] := by
              rw [← HR.out]
              exact find_here hlt (fun j hj => Hno.out j hj (by omega)) Hla.out Hlc.out
            have Hrs := Lib.hid hrs
            clear hrs
            obtain ⟨c0, c1, c2, f0, f1, f2, sz⟩ := V2
            go_wp2
            obtain ⟨q0, q1, q2⟩ := read3 (.int .i64 la) (.int .i64 lb) (.int .i64 lc) c0 c1 c2
            have hp : ∀ (X : World) (o : Obj) (j : Nat), X.heap.size = wr.heap.size → (X.alloc o).cell? ⟨w.heap.size + 1, j, none⟩ = X.cell? ⟨w.heap.size + 1, j, none⟩ := fun X o j hX => World.cell?_alloc_past _ _ _ (by rw [hX]; exact sz)
            refine bodyPost_ret (v := .tuple #[.agg #[.int .i64 la, .int .i64 lb, .int .i64 lc], .bool true]) (by simp [results, Try.results19, go_sem, q0, q1, q2, hp]) rfl ⟨?_, ?_⟩
            · rw [Hrs.out]; simp [lnOf, Hla.out, Hlb.out, Hlc.out]
            · exact (below_set3 (HBel.out.andThen Hb.out) (by omega) _ _ _).more _
          · have H3 := Lib.hid (HG.out (fun _ e => h2 e))
            clear HG
            subst h1
            go_wp2
            go_roundw
            case rel => exact ⟨i + 1, by omega, by go_num, H3.out.out, Hb.out.more _⟩
            case measure => simp [intOf]; omega
        · have H3 := Lib.hid (HG.out (fun e _ => h1 e))
          clear HG
          go_wp2
          go_roundw
          case rel => exact ⟨i + 1, by omega, by go_num, H3.out.out, Hb.out.more _⟩
          case measure => simp [intOf]; omega
      · have hge : ls.length ≤ i := by omega
        have hrs : r = none := by
          rw [← HR.out]
          exact find_none (fun j hj => Hno.out j (by omega) hj)
        have Hrs := Lib.hid hrs
        clear hrs hno hb
        obtain ⟨c0, c1, c2, f0, f1, f2, sz⟩ := V2
        obtain ⟨q0, q1, q2⟩ := read3 (.int .i64 0) (.int .i64 0) (.int .i64 0) c0 c1 c2
        have HQ := Lib.hid (And.intro q0 (And.intro q1 q2))
        clear q0 q1 q2
        go_wp2
        obtain ⟨q0, q1, q2⟩ := HQ.out
        refine bodyPost_ret (v := .tuple #[.agg #[.int .i64 0, .int .i64 0, .int .i64 0], .bool false]) (by simp [results, Try.results19, go_sem, q0, q1, q2]) rfl ⟨by rw [Hrs.out]; rfl, below_set3 (HBel.out.andThen Hb.out) (by omega) _ _ _⟩

set_option maxRecDepth 100000 in
theorem specLinesOf_no (a h s : Int) (w : World) (hb : bOk a h s = false) :
    Calls Try.prog 75 #[.agg #[.int .i64 a, .int .i64 h, .int .i64 s]] w (RetL w []) := by
  go_enter Try.func75, Try.ntmps75
  go_wp2_with fail
  refine (specHolesOf_no _ _ _ _ hb).mono ?_
  rintro e ws hr
  obtain ⟨v, rfl, hr1, hB⟩ := hr
  obtain ⟨q, cap, rfl⟩ := hr1.nil
  have R := Lib.hid (RowX.kept (rowNilL (w.alloc (.cells #[.int .i64 a, .int .i64 h, .int .i64 s] 26)) w.heap.size (w.heap.size + 1) (by simp) (by simp)) hB)
  have hBel := Lib.hid (((below1 w (.cells #[.int .i64 a, .int .i64 h, .int .i64 s] 26)).more (.cells #[] 38)).andThen hB)
  clear hr1 hB
  go_wp2_with fail
  refine wp_loop_rounds 1 ?_
  rw [rounds_succ]
  go_wp2
  go_ret
  exact ⟨_, rfl, R.out, hBel.out⟩

theorem specLinesOf_any (a h s : Int) (w : World) :
    Calls Try.prog 75 #[.agg #[.int .i64 a, .int .i64 h, .int .i64 s]] w (RetL w (linesL a h s)) := by
  cases hb : bOk a h s
  · rw [linesL_no hb]; exact specLinesOf_no a h s w hb
  · obtain ⟨W, H, S, rfl, rfl, rfl, ok⟩ := (bOk_iff _ _ _).1 hb
    rw [linesL_ok ok]
    exact specLinesOf_yes W H S ok w

set_option maxHeartbeats 800000 in
set_option maxRecDepth 100000 in
theorem specLineBetween_any (a h s f t : Int) (w : World) :
    Calls Try.prog 93 #[.agg #[.int .i64 a, .int .i64 h, .int .i64 s], .int .i64 f, .int .i64 t] w fun e w' => e = .returned (.tuple #[.agg #[.int .i64 (lnOf (findL (linesL a h s) f t)).a, .int .i64 (lnOf (findL (linesL a h s) f t)).b, .int .i64 (lnOf (findL (linesL a h s) f t)).c], .bool (findL (linesL a h s) f t).isSome]) ∧ Below w.heap.size w w' := by
  have hsh := linesL_short a h s
  obtain ⟨ls, hls⟩ : ∃ ls, linesL a h s = ls := ⟨_, rfl⟩
  rw [hls] at hsh ⊢
  have HL := Lib.hid hls
  clear hls
  obtain ⟨r, hr⟩ : ∃ r, findL ls f t = r := ⟨_, rfl⟩
  rw [hr]
  have HR := Lib.hid hr
  clear hr
  go_enter Try.func93, Try.ntmps93
  have V0 := (VarAt.new (w.alloc (.cells #[.int .i64 a, .int .i64 h, .int .i64 s] 26)) 0 0 0 38 (w.heap.size + 1) (by simp))
  go_wp2_with fail
  refine (specLinesOf_any _ _ _ _).mono ?_
  rintro e ws hr
  obtain ⟨v, rfl, hr1, hB⟩ := hr
  rw [HL.out] at hr1
  have V1 := V0.below hB
  have hBel := ((below1 w (.cells #[.int .i64 a, .int .i64 h, .int .i64 s] 26)).more (.cells #[.int .i64 0, .int .i64 0, .int .i64 0] 38)).andThen hB
  clear V0 hB
  rcases hr1.forms with ⟨h0, q, cap, rfl⟩ | ⟨_, g, cap, rfl, _, hgs⟩
  · have hr0 : r = none := by rw [← HR.out, h0]; rfl
    have Hr0 := Lib.hid hr0
    have HBel := Lib.hid hBel
    obtain ⟨c0, c1, c2, f0, f1, f2, sz⟩ := V1
    obtain ⟨q0, q1, q2⟩ := read3 (.int .i64 0) (.int .i64 0) (.int .i64 0) c0 c1 c2
    have HQ := Lib.hid (And.intro q0 (And.intro q1 q2))
    clear hr0 hBel hr1 q0 q1 q2
    go_wp2_with fail
    refine wp_loop_rounds 1 ?_
    rw [rounds_succ]
    go_wp2
    obtain ⟨q0, q1, q2⟩ := HQ.out
    refine bodyPost_ret (v := .tuple #[.agg #[.int .i64 0, .int .i64 0, .int .i64 0], .bool false]) (by simp [results, Try.results93, go_sem, q0, q1, q2]) rfl ⟨by rw [Hr0.out]; rfl, below_set3 HBel.out (by omega) _ _ _⟩
  · have HBel := Lib.hid hBel
    clear hBel
    go_wp2_with fail
    go_loopw [9] (fun j wr => ∃ i : Nat, i ≤ ls.length ∧ j = .int .i64 i ∧ (∀ k (hk : k < i) (hl : k < ls.length), ¬ (ls[k].a = f ∧ ls[k].c = t)) ∧ Below ws.heap.size ws wr) (fun j _ => ls.length - (intOf j).toNat)
    case atStart => exact ⟨0, by omega, rfl, fun k hk => by omega, Below.refl _ _⟩
    case round =>
      obtain ⟨i, hi, rfl, hno, hb⟩ := hrel
      have V2 := V1.below hb
      have Hb := Lib.hid hb
      have Hno := Lib.hid hno
      by_cases hlt : i < ls.length
      · obtain ⟨e0, e1, e2⟩ := (RowL.kept hr1 hb).at i hlt
        obtain ⟨la, hla⟩ : ∃ x, ls[i].a = x := ⟨_, rfl⟩
        obtain ⟨lb, hlb⟩ : ∃ x, ls[i].b = x := ⟨_, rfl⟩
        obtain ⟨lc, hlc⟩ : ∃ x, ls[i].c = x := ⟨_, rfl⟩
        rw [hla] at e0
        rw [hlb] at e1
        rw [hlc] at e2
        have Hla := Lib.hid hla
        have Hlb := Lib.hid hlb
        have Hlc := Lib.hid hlc
        have hgw : g < wr.heap.size := Nat.lt_of_lt_of_le hgs hb.size
        clear hb hno hla hlb hlc
        have Hgo : (la = f → lc = t → False) → Hid (∀ k (hk : k < i + 1) (hl : k < ls.length), ¬ (ls[k].a = f ∧ ls[k].c = t)) := fun hne k hk hl he => by
          by_cases hki : k < i
          · exact Hno.out k hki hl he
          · obtain rfl : k = i := by omega
            exact hne (Hla.out.symm.trans he.1) (Hlc.out.symm.trans he.2)
        have HG := Lib.hid Hgo
        clear Hgo
        by_cases h1 : la = f
        · by_cases h2 : lc = t
          · subst h1 h2
            have hrs : r = some ls[i] := by
              rw [← HR.out]
              exact find_here hlt (fun j hj => Hno.out j hj (by omega)) Hla.out Hlc.out
            have Hrs := Lib.hid hrs
            clear hrs
            obtain ⟨c0, c1, c2, f0, f1, f2, sz⟩ := V2
            go_wp2
            obtain ⟨q0, q1, q2⟩ := read3 (.int .i64 la) (.int .i64 lb) (.int .i64 lc) c0 c1 c2
            have hp : ∀ (X : World) (o : Obj) (j : Nat), X.heap.size = wr.heap.size → (X.alloc o).cell? ⟨w.heap.size + 1, j, none⟩ = X.cell? ⟨w.heap.size + 1, j, none⟩ := fun X o j hX => World.cell?_alloc_past _ _ _ (by rw [hX]; exact sz)
            refine bodyPost_ret (v := .tuple #[.agg #[.int .i64 la, .int .i64 lb, .int .i64 lc], .bool true]) (by simp [results, Try.results93, go_sem, q0, q1, q2]) rfl ⟨?_, ?_⟩
            · rw [Hrs.out]; simp [lnOf, Hla.out, Hlb.out, Hlc.out]
            · exact below_set3 (HBel.out.andThen Hb.out) (by omega) _ _ _
          · have H3 := Lib.hid (HG.out (fun _ e => h2 e))
            clear HG
            subst h1
            go_wp2
            go_roundw
            case rel => exact ⟨i + 1, by omega, by go_num, H3.out.out, Hb.out⟩
            case measure => simp [intOf]; omega
        · have H3 := Lib.hid (HG.out (fun e _ => h1 e))
          clear HG
          go_wp2
          go_roundw
          case rel => exact ⟨i + 1, by omega, by go_num, H3.out.out, Hb.out⟩
          case measure => simp [intOf]; omega
      · have hge : ls.length ≤ i := by omega
        have hrs : r = none := by
          rw [← HR.out]
          exact find_none (fun j hj => Hno.out j (by omega) hj)
        have Hrs := Lib.hid hrs
        clear hrs hno hb
        obtain ⟨c0, c1, c2, f0, f1, f2, sz⟩ := V2
        obtain ⟨q0, q1, q2⟩ := read3 (.int .i64 0) (.int .i64 0) (.int .i64 0) c0 c1 c2
        have HQ := Lib.hid (And.intro q0 (And.intro q1 q2))
        clear q0 q1 q2
        go_wp2
        obtain ⟨q0, q1, q2⟩ := HQ.out
        refine bodyPost_ret (v := .tuple #[.agg #[.int .i64 0, .int .i64 0, .int .i64 0], .bool false]) (by simp [results, Try.results93, go_sem, q0, q1, q2]) rfl ⟨by rw [Hrs.out]; rfl, below_set3 (HBel.out.andThen Hb.out) (by omega) _ _ _⟩

end Go.Proofs.Ytoipnooncnpndaa
