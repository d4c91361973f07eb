/-
  The draw of a game: a start and jumps that can be played.
-/
import Derived.Test.YtoipnooncnpndaaJumpLaw
import Derived.Test.YtoipnooncnpndaaGame
import Derived.Test.YtoipnooncnpndaaWalkS
import Derived.Test.YtoipnooncnpndaaSix
import Derived.Deep.Cut
namespace Go.Proofs.Ytoipnooncnpndaa
open Go.RowKit
open Peg
set_option linter.unusedVariables false
set_option linter.unusedSimpArgs false

theorem jumpL_step {W H S P : Nat} (ok : Ok W H S) (hs : P &&& S = P) {k : Nat} {l : Ln} (h : (jumpL W H S P)[k]? = some l) :
    ∃ A B C Q : Nat, l = ⟨A, B, C⟩ ∧ jump1 W H S P l = some Q ∧ Q &&& S = Q := by
  have hp : pOk W H S P = true := (pOk_iff ok _).2 ⟨P, rfl, hs⟩
  rw [jumpL_yes hp, linesL_ok ok] at h
  have hm := List.mem_of_getElem? h
  rw [List.mem_filter] at hm
  obtain ⟨A, B, C, rfl, dx, dy, hI⟩ := linesF_form ok hm.1
  have hj : canJ P A B C = true := by have := hm.2; simpa [canJL] using this
  refine ⟨A, B, C, jumpTo P A B C, rfl, ?_, jump_sub hs hI.hc⟩
  unfold jump1
  dsimp only
  rw [isL_mem ok hI, jumpO_nat hp, hj]; rfl
theorem steps_snoc {f : Int → Ln → Option Nat} {p : Int} {ls : List Ln} {q : Int} {l : Ln} {r : Nat} (h : stepsO f p ls = some q) (hf : f q l = some r) : stepsO f p (ls ++ [l]) = some (r : Int) := by
  rw [stepsO_append, h]
  show stepsO f q [l] = _
  rw [stepsO_one, hf]; rfl
theorem Drew.row {n : Nat} {ad : Option Addr} {len cap : Nat} {w wr w' : World} {row : Option Nat} (h : Drew n ad len cap w wr) (hn : n < w.heap.size) (ho : len = 0 ∨ ∀ a, ad = some a → a.block < w.heap.size) (hb : ∀ k, row = some k → w.heap.size ≤ k) (hg : wr.grownBy w' row) : Drew n ad len cap w w' := by
  cases row with
  | none => exact h.more ⟨hg.os, hg.tape, hg.output, hg.size, fun k hk => hg.block k hk (by simp)⟩
  | some b => exact h.own hn ho (hb b rfl) hg
theorem RowL.drew {n : Nat} {ad : Option Addr} {len cap B : Nat} {v : Value} {ls : List Ln} {w w' : World} (h : RowL w B v ls) (hd : Drew n ad len cap w w') (hB : n < B) : RowL w' B v ls :=
  RowX.keptBut h hd.gr (fun k hk e => by have := (RowX.lt h k hk).1; simp at e; omega)
theorem BoxAt.drew {n b : Nat} {ad : Option Addr} {len cap : Nat} {x y z : Int} {w w' : World} (h : BoxAt b w x y z) (hd : Drew n ad len cap w w') (hB : b ≠ n) : BoxAt b w' x y z :=
  h.grown hd.gr (by simpa using hB)

/-- A game that is drawn. -/
def PlayRet (n : Nat) (ad : Option Addr) (len cap : Nat) (W H S P N : Nat) (w : World) (e : Ending) (w' : World) : Prop :=
  ∃ (ls : List Ln) (Q : Nat) (v : Value), ls.length ≤ N ∧ Q &&& S = Q ∧ stepsO (jump1 W H S) P ls = some (Q : Int) ∧ e = .returned v ∧ RowL w' w.heap.size v ls ∧ Drew n ad len cap w w'

set_option maxHeartbeats 1600000 in
set_option maxRecDepth 100000 in
theorem l06Play_any (n : Nat) (ad : Option Addr) (len cap W H S P N : Nat) (ok : Ok W H S) (hs : P &&& S = P) (hN : N ≤ 12) (w : World) (hc : Cur n ad len cap w) :
    Calls Try.prog 78 #[.pointer (some ⟨n, 0, none⟩), .agg #[.int .i64 W, .int .i64 H, .int .i64 S], .int .i64 P, .int .i64 N] w (PlayRet n ad len cap W H S P N w) := by
  obtain ⟨i0, hi, hz0, hz1, hz2⟩ := info_parts info_line
  have hn := hc.sz
  have HOLD := Lib.hid hc.bytes.old
  have HC := Lib.hid hc
  have HOK := Lib.hid ok
  have HS := Lib.hid hs
  clear hc ok hs
  go_enter Try.func78, Try.ntmps78
  have X0 := BoxAt.new w W H S 26
  have X1 := X0.below (below1 _ (.cells #[] 38))
  have R0 := rowNilL (w.alloc (.cells #[.int .i64 W, .int .i64 H, .int .i64 S] 26)) (w.heap.size + 1) (w.heap.size + 1) (by simp) (by simp)
  have D0 := ((Drew.refl HC.out).more (below1 w (.cells #[.int .i64 W, .int .i64 H, .int .i64 S] 26))).more (below1 _ (.cells #[] 38))
  obtain ⟨b, hb⟩ : ∃ b, w.heap.size = b := ⟨_, rfl⟩
  rw [hb] at X1 R0
  have hX1 := Lib.hid X1
  have hR0 := Lib.hid R0
  have hD0 := Lib.hid D0
  have HB := Lib.hid hb
  clear X0 X1 R0 D0
  go_wp2_with fail
  clear hb
  go_loopw [2, 9, 10] (fun p v j wr => ∃ (k Q : Nat) (ls : List Ln), k ≤ N ∧ j = .int .i64 k ∧ p = .int .i64 Q ∧ Q &&& S = Q ∧ ls.length ≤ k ∧ stepsO (jump1 W H S) P ls = some (Q : Int) ∧ RowL wr (b + 1) v ls ∧ BoxAt b wr W H S ∧ Drew n ad len cap w wr) (fun _ _ j _ => N - (intOf j).toNat)
  case atStart => exact ⟨0, P, [], by omega, rfl, rfl, HS.out, by simp, rfl, hR0.out, hX1.out, hD0.out⟩
  case round =>
    obtain ⟨k, Q, ls, hk, rfl, rfl, hqs, hlen, hst, hrow, hbox, hdr⟩ := hrel
    clear hX1 hR0 hD0
    have hQ63 : Q < 2 ^ 49 := Nat.lt_of_le_of_lt (sub_le hqs) HOK.out.lt
    have HQS := Lib.hid hqs
    have HST := Lib.hid hst
    have hsz := hdr.gr.size
    have hbw : w.heap.size = b := HB.out
    by_cases hlt : k < N
    · have hI1 : (k : Int) < (N : Int) := by omega
      obtain ⟨b0, b1, b2, bz⟩ := hbox
      go_wp2_with fail
      refine (specJumpsOf_any W H S Q (by omega) _).mono ?_
      rintro e w5 hr
      obtain ⟨v2, rfl, hr2, hB5⟩ := hr
      have hdr5 := hdr.more hB5
      have hrow5 : RowL w5 (b + 1) u9 ls := hrow.kept hB5
      have hbox5 := (BoxAt.mk b0 b1 b2 bz).below hB5
      have HSTEP := Lib.hid (fun (j : Nat) (l : Ln) (hl : (jumpL W H S Q)[j]? = some l) => jumpL_step HOK.out HQS.out hl)
      clear hdr hrow b0 b1 b2 bz hB5 hqs hst
      rcases hr2.forms with ⟨h0, q, cp, rfl⟩ | ⟨hx, g, cp, rfl, hg1, hg2⟩
      · have HR := Lib.hid hrow5
        have HD := Lib.hid hdr5
        clear hrow5 hdr5 hr2 hbox5
        go_wp2
        go_ret
        exact ⟨ls, Q, u9, by omega, HQS.out, HST.out, rfl, HR.out.le (by omega), HD.out⟩
      have HAT := Lib.hid (fun j hj => hr2.at j hj)
      have hL196 := jumpL_short W H S Q
      obtain ⟨js, hjs⟩ : ∃ js, jumpL W H S Q = js := ⟨_, rfl⟩
      rw [hjs] at HAT HSTEP hx hL196 ⊢
      obtain ⟨L, hL⟩ : ∃ L, js.length = L := ⟨_, rfl⟩
      have HL := Lib.hid hL
      rw [hL] at hx hL196 ⊢
      have hL0 : ¬ (L : Int) = 0 := by omega
      clear hr2 hjs hL
      go_wp2_with fail
      refine (l01Below_any n ad len cap L (by omega) _ hdr5.cur).mono ?_
      rintro e w6 ⟨r, hr0, hr1, _, _, rfl, hD6⟩
      obtain ⟨j, rfl⟩ := Int.eq_ofNat_of_zero_le hr0
      have hj1 : (j : Int) < (L : Int) := hr1 (by omega)
      have hjL : j < js.length := by rw [HL.out]; omega
      obtain ⟨e0, e1, e2⟩ := HAT.out j hjL
      obtain ⟨A, B, C, Q2, hl, hjump, hqs2⟩ := HSTEP.out j js[j] (List.getElem?_eq_getElem hjL)
      rw [hl] at e0 e1 e2
      dsimp only at e0 e1 e2
      have hgn : some g ≠ some n := by simp; omega
      replace e0 := hD6.gr.cell e0 hgn
      replace e1 := hD6.gr.cell e1 hgn
      replace e2 := hD6.gr.cell e2 hgn
      have hgw : g < w6.heap.size := World.block_lt_of_cell? w6 _ e0
      have HJ := Lib.hid (show jump1 W H S Q ⟨A, B, C⟩ = some Q2 by rw [← hl]; exact hjump)
      have HQ2 := Lib.hid hqs2
      have hdr6 := hdr5.trans hD6
      have hrow6 := hrow5.drew hD6 (by omega)
      have hbox6 := hbox5.drew hD6 (by omega)
      have X6 := BoxAt.new w6 A B C 38
      have bb6 := below1 w6 (.cells #[.int .i64 A, .int .i64 B, .int .i64 C] 38)
      have hdr7 := hdr6.more bb6
      have hrow7 : RowL _ (b + 1) u9 ls := hrow6.kept bb6
      have hbox7 := hbox6.below bb6
      have HX := Lib.hid X6
      have HD7 := Lib.hid hdr7
      have HR7 := Lib.hid hrow7
      have HB7 := Lib.hid hbox7
      obtain ⟨b0, b1, b2, bz⟩ := hbox6
      clear hD6 hr1 hdr5 hrow5 hbox5 hdr6 hrow6 bb6 hl hjump hqs2 hjL hr0 X6 hdr7 hrow7 hbox7
      go_wp2_with fail
      have X6 := HX.out
      have hdr7 := HD7.out
      have hrow7 := HR7.out
      have hbox7 := HB7.out
      obtain ⟨m, hm⟩ : ∃ m, w6.heap.size = m := ⟨_, rfl⟩
      rw [hm] at X6
      clear e0 e1 e2 hgw b0 b1 b2 bz HX HD7 HR7 HB7
      generalize w6.alloc (.cells #[.int .i64 A, .int .i64 B, .int .i64 C] 38) = w7 at X6 hdr7 hrow7 hbox7 ⊢
      obtain ⟨b0, b1, b2, bz⟩ := hbox7
      obtain ⟨m0, m1, m2, mz⟩ := X6
      refine (specDoJump_ls W H S Q A B C Q2 (by omega) HJ.out _).mono ?_
      rintro e w8 ⟨rfl, hB8⟩
      have hdr8 := hdr7.more hB8
      have hrow8 : RowL _ (b + 1) u9 ls := hrow7.kept hB8
      have hbox8 := (BoxAt.mk b0 b1 b2 bz).below hB8
      replace m0 := cell_kept m0 hB8
      replace m1 := cell_kept m1 hB8
      replace m2 := cell_kept m2 hB8
      have hsz8 := hdr8.gr.size
      clear hdr7 hrow7 b0 b1 b2 bz mz hB8
      have hown := hrow8
      unfold RowL RowX at hown
      go_wp2_with (at_builtin; refine wpList_append_own_at _ rfl _ _ 34 rfl (b + 1) 38 i0 (.agg #[.int .i64 0, .int .i64 0, .int .i64 0]) 3 24 Try.underlying34 hi hz0 hz1 hz2 rfl (by decide) _ _ _ rfl (hown.alloc _) ⟨w8.heap.size, 0, none⟩ 1 1 [.int .i64 A, .int .i64 B, .int .i64 C] rfl rfl ?c1 ?c2 ?c3 ?c4 ?c5 ?_)
      case c1 => exact cell_three _ _ _ _ _
      case c2 => simp [Value.oneCell']
      case c3 => unfold maxLen; omega
      case c4 => omega
      case c5 => simp; omega
      intro v' w9 hown' hgrow _ hat
      have R := Lib.hid (RowL.put (l := ⟨A, B, C⟩) hown')
      have hblk : ∀ k, u9.ownBlock = some k → b + 1 ≤ k := fun k hk => (RowX.lt hrow8 k hk).1
      have D := Lib.hid ((hdr8.more (below1 _ _)).row hn HOLD.out (fun k hk => by have := hblk k hk; omega) hgrow)
      have B9 := Lib.hid ((hbox8.below (below1 _ _)).grown hgrow (fun e => by have := hblk b e.symm; omega))
      clear hown hown' hgrow hat hdr8 hrow8 hbox8 m0 m1 m2
      go_wp2
      go_roundw
      case rel => exact ⟨k + 1, Q2, ls ++ [⟨A, B, C⟩], by omega, by go_num, rfl, HQ2.out, by simp; omega, steps_snoc HST.out HJ.out, R.out, B9.out, D.out⟩
      case measure => simp [intOf]; omega
    · have hI1 : ¬ (k : Int) < (N : Int) := by omega
      have HR := Lib.hid hrow
      have HD := Lib.hid hdr
      clear hrow hdr hbox
      go_wp2
      go_ret
      exact ⟨ls, Q, u9, by omega, HQS.out, HST.out, rfl, HR.out.le (by omega), HD.out⟩

theorem holes_some {W H S : Nat} (ok : Ok W H S) : 0 < (holesL W H S).length := by
  obtain ⟨i, hi⟩ := Nat.exists_testBit_of_ne_zero (show S ≠ 0 by have := ok.s1; omega)
  have hlt : i < W * H := by
    apply Classical.byContradiction
    intro hn
    rw [Nat.testBit_lt_two_pow (Nat.lt_of_lt_of_le ok.s2 (Nat.pow_le_pow_right (by decide) (by omega)))] at hi
    cases hi
  rw [cnt_holes ok]
  unfold cnt
  exact List.length_pos_of_mem (a := i) (by rw [List.mem_filter, List.mem_range]; exact ⟨hlt, hi⟩)
theorem sub_diff {S K : Nat} (hb : S.testBit K = true) : S - 2 ^ K = Bit.diff S (2 ^ K) := by
  have := Bit.diff_two_pow_of_set K S hb; omega
theorem sub_wrap (S K : Nat) (hS : S < 2 ^ 63) (hK : K ≤ 48) (hb : S.testBit K = true) : IntKind.i64.wrap ((S : Int) - ((2 ^ K : Nat) : Int)) = ((S - 2 ^ K : Nat) : Int) := by
  have h1 : 2 ^ K ≤ S := Nat.ge_two_pow_of_testBit hb
  rw [show (S : Int) - ((2 ^ K : Nat) : Int) = ((S - 2 ^ K : Nat) : Int) from by omega]
  exact Bit.i64_wrap _ (by omega) (by have := Nat.sub_le S (2 ^ K); omega)
theorem self_sub (S : Nat) : S &&& S = S := Nat.and_self S

/-- A start that is drawn. -/
def StartRet (n : Nat) (ad : Option Addr) (len cap : Nat) (S : Nat) (w : World) (e : Ending) (w' : World) : Prop :=
  ∃ P : Nat, P &&& S = P ∧ e = .returned (.int .i64 P) ∧ Drew n ad len cap w w'

set_option maxHeartbeats 1600000 in
set_option maxRecDepth 100000 in
theorem l06Start_any (n : Nat) (ad : Option Addr) (len cap W H S : Nat) (ok : Ok W H S) (w : World) (hc : Cur n ad len cap w) :
    Calls Try.prog 77 #[.pointer (some ⟨n, 0, none⟩), .agg #[.int .i64 W, .int .i64 H, .int .i64 S]] w (StartRet n ad len cap S w) := by
  have hn := hc.sz
  have HOK := Lib.hid ok
  have hLpos := holes_some ok
  have hL49 := holesL_short W H S
  have HAT := Lib.hid (fun j hj => hole_at ok j hj)
  have hHo := specHolesOf_any W H S
  obtain ⟨xs, hxs⟩ : ∃ xs, holesL W H S = xs := ⟨_, rfl⟩
  rw [hxs] at hLpos hL49 HAT hHo
  obtain ⟨L, hL⟩ : ∃ L, xs.length = L := ⟨_, rfl⟩
  have HL := Lib.hid hL
  rw [hL] at hLpos hL49 HAT
  have HHo := Lib.hid hHo
  go_enter Try.func77, Try.ntmps77
  have X0 := BoxAt.new w W H S 26
  have D0 := (Drew.refl hc).more (below1 w (.cells #[.int .i64 W, .int .i64 H, .int .i64 S] 26))
  have HX0 := Lib.hid X0
  have HD0 := Lib.hid D0
  clear X0 D0 hc ok hxs hL hHo
  go_wp2_with fail
  refine (HHo.out _).mono ?_
  rintro e w1 hr
  obtain ⟨v, rfl, hr1, hB1⟩ := hr
  have X1 := HX0.out.below hB1
  have D1 := HD0.out.more hB1
  obtain ⟨b, hb⟩ : ∃ b, w.heap.size = b := ⟨_, rfl⟩
  rw [hb] at X1
  rcases hr1.forms with ⟨h0, q, cp, rfl⟩ | ⟨_, g, cp, rfl, hg1, hg2, _⟩
  · rw [← HL.out, h0] at hLpos; simp at hLpos
  have hROW := Lib.hid (fun j hj => hr1.at j hj)
  rw [HL.out] at hROW ⊢
  have hgn : some g ≠ some n := by simp at hg1; simp; omega
  have hbn : b ≠ n := by omega
  clear hr1 hB1 HX0 HD0 HHo hg1
  have hL0 : ¬ (L : Int) = 0 := by omega
  go_wp2_with fail
  refine (l01Once_any n ad len cap 3 (by decide) _ D1.cur).mono ?_
  rintro e w2 ⟨c, rfl, hD2⟩
  have D2 := D1.trans hD2
  have X2 := X1.drew hD2 hbn
  have HROW2 := Lib.hid (fun j (hj : j < L) => hD2.gr.cell (hROW.out j hj) hgn)
  have hgw : g < w2.heap.size := by have := hD2.gr.size; omega
  clear hD2 D1 X1 hROW hg2
  cases c
  · obtain ⟨b0, b1, b2, bz⟩ := X2
    go_wp2_with fail
    have hcd := D2.cur.kept (Below.drew (Below.refl _ _))
    have D2d := D2.more (Below.drew (Below.refl _ _))
    have HROWd := Lib.hid (show ∀ j, j < L → w2.drew.cell? ⟨g, j, none⟩ = some (.int .i64 (xs[j]?.getD 0)) from fun j hj => HROW2.out j hj)
    have b2d : w2.drew.cell? ⟨b, 2, none⟩ = some (.int .i64 S) := b2
    have HS63 := Lib.hid HOK.out.lt63
    have hbn2 : some b ≠ some n := by simpa using hbn
    go_cut [6] from 8 (fun p wc => ∃ K S' : Nat, p = .int .i64 S' ∧ S - 2 ^ K = S' ∧ S.testBit K = true ∧ Drew n ad len cap w wc ∧ ∀ j, j < L → wc.cell? ⟨g, j, none⟩ = some (.int .i64 (xs[j]?.getD 0)))
    case first =>
      first
      | (go_region_held3 (fun w' : World => w'.cell? ⟨b, 2, none⟩ = some (.int .i64 S) ∧ ∀ j, j < L → w'.cell? ⟨g, j, none⟩ = some (.int .i64 (xs[j]?.getD 0)))
          (first | exact ⟨b2d, HROWd.out⟩ | exact ⟨c2, HR3.out⟩)
          (first | (go_at_call 79; refine (l01Below_any n ad len cap L (by omega) _ hcd).mono ?_; rintro e w3 ⟨r, hr0, hr1, _, _, rfl, hD3⟩; obtain ⟨j, rfl⟩ := Int.eq_ofNat_of_zero_le hr0; have hj1 : (j : Int) < (L : Int) := hr1 (by omega); have hjL : j < L := (by omega); obtain ⟨K, hK0, _, hK, hKb⟩ := HAT.out j hjL; have q3 := sub_wrap S K HS63.out hK hKb; have q4 := pow_wrap K hK; obtain ⟨T, hT⟩ : ∃ T, 2 ^ K = T := ⟨_, rfl⟩; obtain ⟨S', hS'⟩ : ∃ S', S - 2 ^ K = S' := ⟨_, rfl⟩; rw [hS'] at q3; rw [hT] at q3 q4; have HS' := Lib.hid hS'; have HKb := Lib.hid hKb; have c2 := hD3.gr.cell b2d hbn2; have HR3 := Lib.hid (show ∀ j, j < L → w3.cell? ⟨g, j, none⟩ = some (.int .i64 (xs[j]?.getD 0)) from fun j hj => hD3.gr.cell (HROWd.out j hj) hgn); have HD3 := Lib.hid hD3; clear hD3 hr1 hS' hKb hr0 hT)))
      | fail
      all_goals go_wp2
      all_goals go_meet
      all_goals exact ⟨K, S', rfl, HS'.out, HKb.out, D2d.trans HD3.out, HR3.out⟩
    case rest =>
    obtain ⟨K, S', rfl, hS', hKb, D3, hrow3⟩ := hcut
    clear b0 b1 b2 bz hcd D2d HROWd b2d D2 HROW2 hgw
    have hs1 : S' &&& S = S' := by rw [← hS', sub_diff hKb]; exact diff_sub (self_sub S)
    have hS'63 := Lib.hid (Nat.lt_of_le_of_lt (sub_le hs1) HS63.out)
    have HS1 := Lib.hid hs1
    clear hS' hKb hs1
    go_wp2_with fail
    refine (l01Below_any n ad len cap L (by omega) _ D3.cur).mono ?_
    rintro e w4 ⟨r, hr0, hr1, _, _, rfl, hD4⟩
    obtain ⟨j, rfl⟩ := Int.eq_ofNat_of_zero_le hr0
    have hj1 : (j : Int) < (L : Int) := hr1 (by omega)
    obtain ⟨K2, hK0, _, hK, hKb⟩ := HAT.out j (by omega)
    have hcell := hD4.gr.cell (hrow3 j (by omega)) hgn
    rw [hK0] at hcell
    have hgw : g < w4.heap.size := World.block_lt_of_cell? w4 _ hcell
    have D4 := D3.trans hD4
    clear hD4 hr1 hK0 D3 hrow3 hKb hr0
    cases hbit : S'.testBit K2
    · have q1 := and_one1 S' K2 hS'63.out _ hbit
      have HD := Lib.hid D4
      clear D4 hbit
      go_wp2
      go_ret
      exact ⟨S', HS1.out, rfl, HD.out⟩
    · have q1 := and_one1 S' K2 hS'63.out _ hbit
      have q2 := sub_pow S' K2 hS'63.out hK hbit
      have hs2 : (S' - 2 ^ K2) &&& S = S' - 2 ^ K2 := by rw [sub_diff hbit]; exact diff_sub HS1.out
      obtain ⟨P, hP⟩ : ∃ P, S' - 2 ^ K2 = P := ⟨_, rfl⟩
      rw [hP] at q2 hs2
      have HS2 := Lib.hid hs2
      have hcur := D4.cur
      clear hbit hs2 hP
      go_wp2_with fail
      refine (l01Once_any n ad len cap 2 (by decide) _ hcur).mono ?_
      rintro e w5 ⟨c, rfl, hD5⟩
      have HD := Lib.hid (D4.trans hD5)
      clear hD5 D4 hcur hcell hgw
      cases c
      · go_wp2
        go_ret
        exact ⟨S', HS1.out, rfl, HD.out⟩
      · go_wp2
        go_ret
        exact ⟨P, HS2.out, congrArg (fun x => Ending.returned (Value.int .i64 x)) q2, HD.out⟩
  · obtain ⟨b0, b1, b2, bz⟩ := X2
    go_wp2_with fail
    refine (l04Some_any n ad len cap W H S HOK.out _ D2.cur).mono ?_
    rintro e w3 ⟨P, hsub, rfl, hD3⟩
    have D3 := Lib.hid (D2.trans hD3)
    have HSUB := Lib.hid hsub
    clear hD3 hsub D2 b0 b1 b2 bz
    go_wp2
    go_ret
    exact ⟨P, HSUB.out, rfl, D3.out⟩

theorem RowL.set3 {w : World} {B r : Nat} {v : Value} {ls : List Ln} (h : RowL w B v ls) (hr : r < B) (v0 v1 v2 : Value) : RowL (((w.setCell ⟨r, 0, none⟩ v0).setCell ⟨r, 1, none⟩ v1).setCell ⟨r, 2, none⟩ v2) B v ls :=
  have k : ∀ {w : World} (o : Nat) (u : Value), RowL w B v ls → RowL (w.setCell ⟨r, o, none⟩ u) B v ls := fun o u h => RowX.keptBut h (set_grown _ r o u) (fun k hk e => by have := (RowX.lt h k hk).1; simp at e; omega)
  k 2 v2 (k 1 v1 (k 0 v0 h))
theorem cells3_far {w : World} {b r : Nat} {x y z : Value} (hne : r ≠ b) (v0 v1 v2 : Value) (h : w.cell? ⟨b, 0, none⟩ = some x ∧ w.cell? ⟨b, 1, none⟩ = some y ∧ w.cell? ⟨b, 2, none⟩ = some z) :
    (((w.setCell ⟨r, 0, none⟩ v0).setCell ⟨r, 1, none⟩ v1).setCell ⟨r, 2, none⟩ v2).cell? ⟨b, 0, none⟩ = some x ∧ (((w.setCell ⟨r, 0, none⟩ v0).setCell ⟨r, 1, none⟩ v1).setCell ⟨r, 2, none⟩ v2).cell? ⟨b, 1, none⟩ = some y ∧ (((w.setCell ⟨r, 0, none⟩ v0).setCell ⟨r, 1, none⟩ v1).setCell ⟨r, 2, none⟩ v2).cell? ⟨b, 2, none⟩ = some z := by
  have k : ∀ o, (((w.setCell ⟨r, 0, none⟩ v0).setCell ⟨r, 1, none⟩ v1).setCell ⟨r, 2, none⟩ v2).cell? ⟨b, o, none⟩ = w.cell? ⟨b, o, none⟩ := fun o =>
    (World.cell?_setCell_far _ _ _ _ hne).trans ((World.cell?_setCell_far _ _ _ _ hne).trans (World.cell?_setCell_far _ _ _ _ hne))
  exact ⟨(k 0).trans h.1, (k 1).trans h.2.1, (k 2).trans h.2.2⟩

/-- A board, a position, and jumps that can be played. -/
def GameRet (w : World) (e : Ending) (w' : World) : Prop :=
  ∃ (W H S P Q : Nat) (ls : List Ln) (v : Value), Ok W H S ∧ P &&& S = P ∧ Q &&& S = Q ∧ ls.length ≤ 12 ∧ stepsO (jump1 W H S) P ls = some (Q : Int) ∧
    e = .returned (.tuple #[.agg #[.int .i64 W, .int .i64 H, .int .i64 S], .int .i64 P, v]) ∧ RowL w' w.heap.size v ls ∧ Below w.heap.size w w'

set_option maxHeartbeats 1600000 in
theorem DrawGame_any (ad : Option Addr) (len cap : Nat) (hlen : len ≤ 1048576) (w : World) (h : IsCode w ad len) :
    Calls Try.prog 44 #[.slice ad len cap] w (GameRet w) := by
  have Z0 := Zero3.new w 26
  have b0 := below1 w (.cells #[.int .i64 0, .int .i64 0, .int .i64 0] 26)
  have hz : w.heap.size < (w.alloc (.cells #[.int .i64 0, .int .i64 0, .int .i64 0] 26)).heap.size := by simp
  have HC := Lib.hid (h.kept b0)
  have HB0 := Lib.hid b0
  clear h b0
  go_enter Try.func44, Try.ntmps44
  go_wp2_with fail
  refine (l01New_any ad len cap hlen _ HC.out).mono ?_
  rintro e w1 hr
  obtain ⟨n, rfl, hn, hc1, hB1⟩ := hr
  have Z1 := Z0.below hB1
  have hBel1 := HB0.out.andThen hB1
  have hz1 := hB1.size
  clear hB1 Z0 HC
  go_wp2_with fail
  refine (l02Small_any n ad len cap _ hc1).mono ?_
  rintro e w2 hr
  obtain ⟨W, H, S, ok, hW5, hH4, rfl, hD⟩ := hr
  have Z2 := Z1.grown hD.gr (by simp; omega)
  have hBel2 := hBel1.trans (hD.below (by omega) (by omega))
  have hc2 := hD.cur
  have HOK := Lib.hid ok
  clear hD hBel1 Z1 hc1 ok
  have X2 := BoxAt.new w2 W H S 26
  have b2 := below1 w2 (.cells #[.int .i64 W, .int .i64 H, .int .i64 S] 26)
  have Z3 := Z2.below b2
  have hc3 := hc2.kept b2
  have hBel3 := hBel2.andThen b2
  have hnw := hc2.sz
  have hrw := Z2.sz
  have hnew : n ≠ w2.heap.size := by omega
  have HZ := Lib.hid Z3
  have HC3 := Lib.hid hc3
  have HBel3 := Lib.hid hBel3
  have HX2 := Lib.hid X2
  clear hBel2 Z2 hc2 b2 Z3 hc3 hBel3 X2
  go_wp2_with fail
  have Z3 := HZ.out
  have hc3 := HC3.out
  have hBel3 := HBel3.out
  have X2 := HX2.out
  obtain ⟨b, hb⟩ : ∃ b, w2.heap.size = b := ⟨_, rfl⟩
  rw [hb] at X2 hnew hnw hrw
  (try rw [hb])
  clear HZ HC3 HBel3 HX2
  generalize w2.alloc (.cells #[.int .i64 W, .int .i64 H, .int .i64 S] 26) = w3 at X2 Z3 hc3 hBel3 ⊢
  refine (l06Start_any n ad len cap W H S HOK.out _ hc3).mono ?_
  rintro e w4 ⟨P, hsub, rfl, hD4⟩
  have HSUB := Lib.hid hsub
  have Z4 := Z3.grown hD4.gr (by simp; omega)
  have hc4 := hD4.cur
  have hBel4 := hBel3.trans (hD4.below (by have := hBel3.size; omega) (by omega))
  obtain ⟨x0, x1, x2, xz⟩ := X2.drew hD4 (by omega)
  clear hD4 hsub Z3 hc3 hBel3 X2
  obtain ⟨r, hr⟩ : ∃ r, w.heap.size = r := ⟨_, rfl⟩
  have hrb : r < b := by omega
  have hrn : r < n := by simp at hn; omega
  rw [hr] at Z4
  have HZ4 := Lib.hid (Z4.below (Below.drew (Below.refl _ _)))
  have hc4 := hc4.kept (Below.drew (Below.refl _ _))
  have hBel4 := Lib.hid (hBel4.andThen (Below.drew (Below.refl _ _)))
  have hS4 : w4.drew.cell? ⟨b, 0, none⟩ = some (.int .i64 W) ∧ w4.drew.cell? ⟨b, 1, none⟩ = some (.int .i64 H) ∧ w4.drew.cell? ⟨b, 2, none⟩ = some (.int .i64 S) := ⟨x0, x1, x2⟩
  have hbn : some b ≠ some n := by simp; omega
  clear Z4
  go_wp2_with fail
  (try rw [hr])
  go_region_held3 (fun w' : World => w'.cell? ⟨b, 0, none⟩ = some (.int .i64 W) ∧ w'.cell? ⟨b, 1, none⟩ = some (.int .i64 H) ∧ w'.cell? ⟨b, 2, none⟩ = some (.int .i64 S))
    (first | assumption | exact cells3_far (by omega) _ _ _ hS6)
    (first
      | (go_at_call 79; refine (l01Below_any n ad len cap 12 (by decide) _ hc4).mono ?_; rintro e w5 ⟨q, hq0, hq1, _, _, rfl, hD5⟩; obtain ⟨N, rfl⟩ := Int.eq_ofNat_of_zero_le hq0; have hN : N ≤ 12 := (by have := hq1 (by decide); omega); have hS5 : w5.cell? ⟨b, 0, none⟩ = some (.int .i64 W) ∧ w5.cell? ⟨b, 1, none⟩ = some (.int .i64 H) ∧ w5.cell? ⟨b, 2, none⟩ = some (.int .i64 S) := ⟨hD5.gr.cell hS4.1 hbn, hD5.gr.cell hS4.2.1 hbn, hD5.gr.cell hS4.2.2 hbn⟩; have HD5 := Lib.hid hD5; clear hD5 hq1)
      | (go_at_call 78; refine (l06Play_any n ad len cap W H S P N HOK.out HSUB.out hN _ HD5.out.cur).mono ?_; rintro e w6 ⟨ls, Q, v, hls, hqs, hst, rfl, hrow, hD6⟩; have hS6 : w6.cell? ⟨b, 0, none⟩ = some (.int .i64 W) ∧ w6.cell? ⟨b, 1, none⟩ = some (.int .i64 H) ∧ w6.cell? ⟨b, 2, none⟩ = some (.int .i64 S) := ⟨hD6.gr.cell hS5.1 hbn, hD6.gr.cell hS5.2.1 hbn, hD6.gr.cell hS5.2.2 hbn⟩; have HQS := Lib.hid hqs; have HST := Lib.hid hst; have HROW := Lib.hid hrow; have HD6 := Lib.hid (HD5.out.trans hD6); obtain ⟨r0, r1, r2, g0, g1, g2, sz⟩ := HZ4.out.grown HD6.out.gr (by simp; omega); clear hD6 hqs hst hrow))
  go_wp2
  have hBel6 := hBel4.out.trans (HD6.out.below (by have := hBel4.out.size; omega) (by omega))
  have hsz5 := HD5.out.gr.size
  have hsz4 := hBel4.out.size
  subst hr
  obtain ⟨q0, q1, q2⟩ := fin3 (.int .i64 W) (.int .i64 H) (.int .i64 S) r0 r1 r2
  have hB6 := HROW.out.le (B' := w.heap.size + 1) (by simp at hsz5 hsz4 ⊢; omega)
  refine bodyPost_ret (v := .tuple #[.agg #[.int .i64 W, .int .i64 H, .int .i64 S], .int .i64 P, v]) (by simp [results, Try.results44, go_sem, q0, q1, q2]) rfl ⟨W, H, S, P, Q, ls, v, HOK.out, HSUB.out, HQS.out, by omega, HST.out, rfl, (hB6.set3 (by omega) _ _ _).le (by omega), set3_below hBel6 _ _ _⟩
end Go.Proofs.Ytoipnooncnpndaa
