/-
  The draws of texts.
-/
import Derived.Test.YtnnoahoepljejaaDoorDraw
import Derived.Test.YtnnoahoepljejaaDoorOwnU
import Derived.Deep.AppendLies
import Derived.Maps.AppendAt
import Derived.OwnWalk
namespace Go.Proofs.YtnnoahoepljejaaDoor
open Go.RowKit
set_option linter.unusedVariables false
set_option linter.unusedSimpArgs false

theorem Drew.more {n : Nat} {ad : Option Addr} {len cap : Nat} {w wr w' : World} (h : Drew n ad len cap w wr) (hb : Below wr.heap.size wr w') : Drew n ad len cap w w' := ⟨h.cur.kept hb, grown_trans h.gr (grown_any' hb _)⟩
theorem Cur.grown {n : Nat} {ad : Option Addr} {len cap : Nat} {w w' : World} {row : Option Nat} (h : Cur n ad len cap w) (hg : w.grownBy w' row) (hn : some n ≠ row) (hfar : len = 0 ∨ ∀ a, ad = some a → some a.block ≠ row) : Cur n ad len cap w' := by
  obtain ⟨I, hI, hp⟩ := h.pos
  obtain ⟨H0, hm⟩ := h.mix
  exact ⟨hg.cell h.code hn, ⟨I, hI, hg.cell hp hn⟩, ⟨H0, hg.cell hm hn⟩, (hg.frozen_far ⟨n, 1, none⟩ h.sz hn).trans h.f1, (hg.frozen_far ⟨n, 2, none⟩ h.sz hn).trans h.f2, h.bytes.grown hg hfar, h.far, h.small⟩
/-- Stores into a new block b. -/
theorem Drew.own {n b : Nat} {ad : Option Addr} {len cap : Nat} {w wr w' : World} (h : Drew n ad len cap w wr) (hn : n < w.heap.size) (ho : len = 0 ∨ ∀ a, ad = some a → a.block < w.heap.size) (hb : w.heap.size ≤ b) (hg : wr.grownBy w' (some b)) : Drew n ad len cap w w' := by
  refine ⟨h.cur.grown hg (by simp; omega) (ho.imp id fun k a ha => by have := k a ha; simp; omega), ?_⟩
  have h1 := h.gr
  refine ⟨hg.os.trans h1.os, hg.tape.trans h1.tape, hg.output.trans h1.output, Nat.le_trans h1.size hg.size, fun k hk hne => ?_⟩
  have hz := h1.size
  exact (hg.block k (by omega) (by simp; omega)).trans (h1.block k hk hne)
theorem Drew.row {n : Nat} {ad : Option Addr} {len cap : Nat} {w wr w' : World} {row : Option Nat} (h : Drew n ad len cap w wr) (hn : n < w.heap.size) (ho : len = 0 ∨ ∀ a, ad = some a → a.block < w.heap.size) (hb : ∀ k, row = some k → w.heap.size ≤ k) (hg : wr.grownBy w' row) : Drew n ad len cap w w' := by
  cases row with
  | none => exact h.more ⟨hg.os, hg.tape, hg.output, hg.size, fun k hk => hg.block k hk (by simp)⟩
  | some b => exact h.own hn ho (hb b rfl) hg
theorem made_u8 (n : Nat) : (madeCells #[Value.int .u8 0] n).toList = (List.replicate n (0 : Int)).map (Value.int .u8) := by
  apply List.ext_getElem
  · simp [madeCells]
  · intro i h1 h2
    simp [madeCells, Nat.mod_one]
theorem repl_step (x : Int) (k n : Nat) (h : k < n) : (List.replicate k x ++ List.replicate (n - k) 0).set k x = List.replicate (k + 1) x ++ List.replicate (n - (k + 1)) 0 := by
  rw [List.set_append_right _ _ (by simp), List.length_replicate, Nat.sub_self, show n - k = (n - (k + 1)) + 1 from by omega, List.replicate_succ, List.set_cons_zero, List.replicate_succ']
  simp

set_option maxHeartbeats 800000 in
set_option maxRecDepth 100000 in
theorem l01Long_any (n : Nat) (x : Int) (hx0 : 0 ≤ x) (hx1 : x ≤ 255) (hn : n ≤ 100000) (w : World) :
    Calls Tryd.prog 48 #[.int .i64 n, .int .u8 x] w fun e w' => e = .returned (.string (strOfNums (List.replicate n x))) ∧ Below w.heap.size w w' := by
  obtain ⟨i0, hi, hz0, hz1, hz2⟩ := info_parts info_u8
  go_enter Tryd.func48, Tryd.ntmps48
  go_wp2_with (at_make; refine wpList_make_full _ rfl _ _ 22 rfl w.heap.size 5 i0 (.int .u8 0) 1 Tryd.underlying22 hi hz0 hz1 _ _ _ _ n rfl rfl rfl rfl ?c1 ?c2 ?c3 ?_)
  case c1 => rw [hz2]; omega
  case c2 => unfold maxLen; omega
  case c3 => omega
  intro ws hown hgr
  have R0 : RowU ws w.heap.size (.slice (some ⟨w.heap.size, 0, none⟩) n n) (List.replicate n 0) := by
    unfold RowU; rw [List.length_replicate, ← made_u8]; exact hown
  have hBel := (Below.refl w.heap.size w).grown hgr (Nat.le_refl _) (fun k hk => by simp at hk)
  have hgw : w.heap.size < ws.heap.size ∨ n = 0 := by
    by_cases h0 : n = 0
    · exact .inr h0
    · exact .inl (World.block_lt_of_cell? ws _ (by
        have := R0
        have h1 := RowU.at (xs := List.replicate n 0) (g := w.heap.size) (cap := n) (by rw [List.length_replicate]; exact this) 0 (by simp; omega)
        exact h1))
  clear hown hgr
  go_wp2_with fail
  go_loopw [6] (fun j wr => ∃ k : Nat, k ≤ n ∧ j = .int .i64 k ∧ RowU wr w.heap.size (.slice (some ⟨w.heap.size, 0, none⟩) n n) (List.replicate k x ++ List.replicate (n - k) 0) ∧ Below w.heap.size w wr) (fun j _ => n - (intOf j).toNat)
  case atStart => exact ⟨0, by omega, rfl, R0, hBel⟩
  case round =>
    obtain ⟨k, hk, rfl, hrow, hB⟩ := hrel
    by_cases hlt : k < n
    · have hI0 : (0 : Int) ≤ (k : Int) := by omega
      have hI1 : (k : Int) < (n : Int) := by omega
      have hlen : (List.replicate k x ++ List.replicate (n - k) 0).length = n := by simp; omega
      have hst := hrow.set hlen k x
      rw [repl_step x k n hlt] at hst
      have HR := Lib.hid hst.1
      have HB := Lib.hid (hB.grown hst.2 (by have := hB.size; omega) (fun j hj => by simp at hj; omega))
      obtain ⟨ys, hys⟩ : ∃ ys, List.replicate k x ++ List.replicate (n - k) 0 = ys := ⟨_, rfl⟩
      have hrow2 := hrow
      rw [hys] at hrow2 hlen
      have hrow3 : RowU wr w.heap.size (.slice (some ⟨w.heap.size, 0, none⟩) ys.length n) ys := by rw [hlen]; exact hrow2
      have c0 := RowU.at hrow3 k (by rw [hlen]; exact hlt)
      have f0 := RowU.free hrow3 k
      clear hst hrow hrow2 hrow3 hB hlen hys
      go_wp2
      go_roundw
      case rel => exact ⟨k + 1, by omega, by go_num, HR.out, HB.out⟩
      case measure => simp [intOf]; omega
    · have hI1 : ¬ (k : Int) < (n : Int) := by omega
      obtain rfl : k = n := by omega
      rw [Nat.sub_self, List.replicate_zero, List.append_nil] at hrow
      have hlen : (List.replicate k x).length = k := List.length_replicate
      have hcv := RowU.str (P := Tryd.prog) hrow 22 9 Tryd.underlying22 Tryd.underlying5 Tryd.underlying9
      go_wp2
      go_ret
      exact ⟨rfl, hB⟩

/-- A text of n drawn bytes. -/
def TextRet (n : Nat) (ad : Option Addr) (len cap N : Nat) (w : World) (e : Ending) (w' : World) : Prop := ∃ s : ByteArray, s.size = N ∧ e = .returned (.string s) ∧ Drew n ad len cap w w'
theorem strNum_size (xs : List Int) : (strOfNums xs).size = xs.length := by simp [strOfNums, ByteArray.size]

set_option maxHeartbeats 800000 in
set_option maxRecDepth 100000 in
theorem l01Text_any (n : Nat) (ad : Option Addr) (len cap N : Nat) (hN : N ≤ 5000) (w : World) (hc : Cur n ad len cap w) :
    Calls Tryd.prog 49 #[.pointer (some ⟨n, 0, none⟩), .int .i64 N] w (TextRet n ad len cap N w) := by
  obtain ⟨i0, hi, hz0, hz1, hz2⟩ := info_parts info_u8
  have hn := hc.sz
  have HOLD := Lib.hid hc.bytes.old
  have hN5 : ¬ (5000 : Int) < (N : Int) := by omega
  have R0 := Lib.hid (rowNilU w w.heap.size w.heap.size (Nat.le_refl _) rfl)
  have D0 := Lib.hid ((Drew.refl hc).more (below1 w (.cells #[] 5)))
  clear hc
  go_enter Tryd.func49, Tryd.ntmps49
  go_wp2_with fail
  go_loopw [5, 6] (fun v j wr => ∃ (k : Nat) (xs : List Int), k ≤ N ∧ j = .int .i64 k ∧ xs.length = k ∧ RowU wr w.heap.size v xs ∧ Drew n ad len cap w wr) (fun _ j _ => N - (intOf j).toNat)
  case atStart => exact ⟨0, [], by omega, rfl, rfl, R0.out, D0.out⟩
  case round =>
    obtain ⟨k, xs, hk, rfl, hxs, hrow, hdr⟩ := hrel
    by_cases hlt : k < N
    · have hI1 : (k : Int) < (N : Int) := by omega
      go_wp2_with fail
      refine (l01Byte_any n ad len cap _ hdr.cur).mono ?_
      rintro e w2 ⟨y, hy, rfl, hD2⟩
      have hdr2 := hdr.trans hD2
      have hrow2 : RowU w2 w.heap.size _ xs := hrow.keptBut hD2.gr (fun k hk e => by have := (hrow.lt k hk).1; simp at e; omega)
      have hsz2 := hdr2.gr.size
      have hc8 : IntKind.u8.wrap (y : Int) = (y : Int) := by unfold IntKind.wrap; simp [IntKind.bits, IntKind.signed]; omega
      have hown := hrow2
      unfold RowU at hown
      clear hD2 hdr hrow
      go_wp2_with (at_builtin; refine wpList_append_own_at _ rfl _ _ 22 rfl w.heap.size 5 i0 (.int .u8 0) 1 1 Tryd.underlying22 hi hz0 hz1 hz2 rfl (by decide) _ _ _ rfl (hown.alloc _) ⟨w2.heap.size, 0, none⟩ 1 1 [.int .u8 y] rfl rfl ?c1 ?c2 ?c3 ?c4 ?c5 ?_)
      case c1 => exact cell_one_new _ _ _
      case c2 => simp [Value.oneCell']
      case c3 => unfold maxLen; omega
      case c4 => omega
      case c5 => simp; omega
      intro v' w3 hown' hgrow _ hat
      have R := Lib.hid (RowU.put1 (xs := xs) (x := y) (by rw [hxs]; exact hown'))
      have D := Lib.hid ((hdr2.more (below1 _ _)).row hn HOLD.out (fun j hj => (World.ownsRow.lt hown j hj).1) hgrow)
      clear hown hown' hgrow hat hdr2 hrow2
      go_wp2
      go_roundw
      case rel => exact ⟨k + 1, xs ++ [(y : Int)], by omega, by go_num, by simp [hxs], R.out, D.out⟩
      case measure => simp [intOf]; omega
    · have hI1 : ¬ (k : Int) < (N : Int) := by omega
      have hcv := RowU.str (P := Tryd.prog) hrow 22 9 Tryd.underlying22 Tryd.underlying5 Tryd.underlying9
      have HD := Lib.hid hdr
      clear hdr
      go_wp2
      go_ret
      exact ⟨_, by rw [strNum_size, hxs]; omega, rfl, HD.out⟩

theorem DrawEncodeHex_any (ad : Option Addr) (len cap : Nat) (hlen : len ≤ 1048576) (w : World) (h : IsCode w ad len) :
    Calls Tryd.prog 28 #[.slice ad len cap] w fun e w' => ∃ s : ByteArray, s.size ≤ 20001 ∧ e = .returned (.string s) ∧ Below w.heap.size w w' := by
  go_enter Tryd.func28, Tryd.ntmps28
  go_wp2_with fail
  refine (l01New_any ad len cap hlen _ h).mono ?_
  rintro e w1 hr
  obtain ⟨n, rfl, hn, hc1, hB1⟩ := hr
  have hs1 := hB1.size
  clear h
  go_wp2_with fail
  refine (l01Once_any n ad len cap 60 (by decide) _ hc1).mono ?_
  rintro e w2 ⟨c, rfl, hD2⟩
  have hB2 := hB1.trans (hD2.below hs1 hn)
  have hc2 := hD2.cur
  clear hB1 hD2 hc1
  cases c
  · go_wp2_with fail
    refine (l01Below_any n ad len cap 30 (by decide) _ hc2).mono ?_
    rintro e w3 ⟨r, hr0, hr1, _, _, rfl, hD3⟩
    obtain ⟨N, rfl⟩ := Int.eq_ofNat_of_zero_le hr0
    have hN : (N : Int) < 30 := hr1 (by decide)
    have hB3 := hB2.trans (hD3.below hB2.size hn)
    have hc3 := hD3.cur
    clear hD3 hB2 hc2 hr1 hr0
    go_wp2_with fail
    refine (l01Text_any n ad len cap N (by omega) _ hc3).mono ?_
    rintro e w4 hr
    obtain ⟨s, hs, rfl, hD4⟩ := hr
    have HB := Lib.hid (hB3.trans (hD4.below hB3.size hn))
    clear hD4 hB3 hc3
    go_wp2
    go_ret
    exact ⟨s, by omega, rfl, HB.out⟩
  · go_wp2_with fail
    refine (l01Below_any n ad len cap 2 (by decide) _ hc2).mono ?_
    rintro e w3 ⟨r, hr0, hr1, _, _, rfl, hD3⟩
    obtain ⟨N, hN⟩ : ∃ N : Nat, (20000 : Int) + r = N := ⟨(20000 + r).toNat, by omega⟩
    have hr2 : r < 2 := hr1 (by decide)
    have hB3 := hB2.trans (hD3.below hB2.size hn)
    clear hD3 hB2 hc2 hr1
    go_wp2_with fail
    refine (l01Long_any N 200 (by decide) (by decide) (by omega) _).mono ?_
    rintro e w4 ⟨rfl, hB4⟩
    have HB := Lib.hid (hB3.andThen hB4)
    clear hB3 hB4
    go_wp2
    go_ret
    exact ⟨_, by rw [strNum_size, List.length_replicate]; omega, rfl, HB.out⟩
end Go.Proofs.YtnnoahoepljejaaDoor
