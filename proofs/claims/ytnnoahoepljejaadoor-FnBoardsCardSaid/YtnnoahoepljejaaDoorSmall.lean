/-
  The draw of a small board.
-/
import Derived.Test.YtnnoahoepljejaaDoorDraw
import Derived.Test.YtnnoahoepljejaaDoorLawV
import Derived.Test.YtnnoahoepljejaaDoorWalkC
import Derived.Deep.AppendLies
import Derived.Deep.Cut
namespace Go.Proofs.YtnnoahoepljejaaDoor
open Go.RowKit
open Peg
set_option linter.unusedVariables false
set_option linter.unusedSimpArgs false

theorem pc_pow : ∀ n i, Pop.pc n (2 ^ i) ≤ 1
  | 0, _ => by simp [Pop.pc]
  | n + 1, 0 => by show (2 ^ 0) % 2 + Pop.pc n (2 ^ 0 / 2) ≤ 1; rw [show 2 ^ 0 / 2 = 0 from rfl, pc_zero]; exact Nat.le_refl _
  | n + 1, i + 1 => by
    have h := pc_pow n i
    show (2 ^ (i + 1)) % 2 + Pop.pc n (2 ^ (i + 1) / 2) ≤ 1
    rw [show 2 ^ (i + 1) / 2 = 2 ^ i from by rw [Nat.pow_succ]; omega, show 2 ^ (i + 1) % 2 = 0 from by rw [Nat.pow_succ]; omega]; omega
theorem Ok.less {W H S i : Nat} (ok : Ok W H S) (hb : S.testBit i = true) (hc : 5 < Pop.pc 64 S) : Ok W H (S - 2 ^ i) := by
  have h1 : 2 ^ i ≤ S := Nat.ge_two_pow_of_testBit hb
  have h2 : S ≠ 2 ^ i := fun e => by have := pc_pow 64 i; rw [← e] at this; omega
  exact ⟨ok.w1, ok.w7, ok.h1, ok.h7, by omega, Nat.lt_of_le_of_lt (Nat.sub_le _ _) ok.s2⟩
theorem Ok.full {W H : Nat} (w1 : 1 ≤ W) (w7 : W ≤ 7) (h1 : 1 ≤ H) (h7 : H ≤ 7) : Ok W H (2 ^ (W * H) - 1) := by
  have ha := area_pos w1 h1
  have h2 : 2 ^ 1 ≤ 2 ^ (W * H) := Nat.pow_le_pow_right (by decide) ha
  exact ⟨w1, w7, h1, h7, by omega, by omega⟩
theorem specRect_ok (W H : Nat) (w1 : 1 ≤ W) (w7 : W ≤ 7) (h1 : 1 ≤ H) (h7 : H ≤ 7) (w : World) :
    Calls Tryd.prog 52 #[.int .i64 W, .int .i64 H] w fun e w' => e = .returned (.agg #[.int .i64 W, .int .i64 H, .int .i64 (2 ^ (W * H) - 1 : Nat)]) ∧ Below w.heap.size w w' := by
  have h := specRectangle_any W H w
  have e : rectOk W H = true := by simp [rectOk, inB]; omega
  have e2 : ((W : Int) * (H : Int)).toNat = W * H := by rw [← Int.natCast_mul, Int.toNat_natCast]
  have e3 : (2 : Int) ^ (W * H) - 1 = ((2 ^ (W * H) - 1 : Nat) : Int) := by
    have := Nat.two_pow_pos (W * H)
    rw [cast_pow]; omega
  simp only [rectW, rectH, rectS, e, if_true, e2, e3] at h
  exact h
theorem sub_pow (S K : Nat) (hS : S < 2 ^ 63) (hK : K ≤ 48) (hb : S.testBit K = true) : wrap64 ((S : Int) - wrap64 (2 ^ K)) = ((S - 2 ^ K : Nat) : Int) := by
  have h1 : 2 ^ K ≤ S := Nat.ge_two_pow_of_testBit hb
  rw [full_sub S K hS hK hb, cast_pow]; omega

theorem Drew.more {n : Nat} {ad : Option Addr} {len cap : Nat} {w wr w' : World} (h : Drew n ad len cap w wr) (hb : Below wr.heap.size wr w') : Drew n ad len cap w w' := ⟨h.cur.kept hb, grown_trans h.gr (grown_any' hb _)⟩
theorem Cur.grown {n : Nat} {ad : Option Addr} {len cap : Nat} {w w' : World} {row : Option Nat} (h : Cur n ad len cap w) (hg : w.grownBy w' row) (hn : some n ≠ row) (hfar : len = 0 ∨ ∀ a, ad = some a → some a.block ≠ row) : Cur n ad len cap w' := by
  obtain ⟨I, hI, hp⟩ := h.pos
  obtain ⟨H0, hm⟩ := h.mix
  exact ⟨hg.cell h.code hn, ⟨I, hI, hg.cell hp hn⟩, ⟨H0, hg.cell hm hn⟩, (hg.frozen_far ⟨n, 1, none⟩ h.sz hn).trans h.f1, (hg.frozen_far ⟨n, 2, none⟩ h.sz hn).trans h.f2, h.bytes.grown hg hfar, h.far, h.small⟩
/-- Stores into a new block b. -/
theorem Drew.own {n b : Nat} {ad : Option Addr} {len cap : Nat} {w wr w' : World} (h : Drew n ad len cap w wr) (hn : n < w.heap.size) (ho : len = 0 ∨ ∀ a, ad = some a → a.block < w.heap.size) (hb : w.heap.size ≤ b) (hg : wr.grownBy w' (some b)) : Drew n ad len cap w w' := by
  refine ⟨h.cur.grown hg (by simp; omega) (ho.imp id fun k a ha => by have := k a ha; simp; omega), ?_⟩
  have h1 := h.gr
  refine ⟨hg.os.trans h1.os, hg.tape.trans h1.tape, hg.output.trans h1.output, Nat.le_trans h1.size hg.size, fun k hk hne => ?_⟩
  have hz := h1.size
  exact (hg.block k (by omega) (by simp; omega)).trans (h1.block k hk hne)

structure SmRel (n : Nat) (ad : Option Addr) (len cap : Nat) (w : World) (b W H S : Nat) (wr : World) : Prop where
  d : Drew n ad len cap w wr
  c0 : wr.cell? ⟨b, 0, none⟩ = some (.int .i64 W)
  c1 : wr.cell? ⟨b, 1, none⟩ = some (.int .i64 H)
  c2 : wr.cell? ⟨b, 2, none⟩ = some (.int .i64 S)
  f2 : wr.frozen? ⟨b, 2, none⟩ = false
  r0 : wr.cell? ⟨w.heap.size, 0, none⟩ = some (.int .i64 0)
  r1 : wr.cell? ⟨w.heap.size, 1, none⟩ = some (.int .i64 0)
  r2 : wr.cell? ⟨w.heap.size, 2, none⟩ = some (.int .i64 0)
  g0 : wr.frozen? ⟨w.heap.size, 0, none⟩ = false
  g1 : wr.frozen? ⟨w.heap.size, 1, none⟩ = false
  g2 : wr.frozen? ⟨w.heap.size, 2, none⟩ = false
  old : len = 0 ∨ ∀ a, ad = some a → a.block < w.heap.size
  hn : n < w.heap.size
  hb : w.heap.size < b
  sz : b < wr.heap.size
theorem SmRel.grown {n : Nat} {ad : Option Addr} {len cap : Nat} {w : World} {b W H S : Nat} {wr w' : World} (h : SmRel n ad len cap w b W H S wr) (hd : Drew n ad len cap wr w') : SmRel n ad len cap w b W H S w' := by
  have h1 : ∀ o, some (⟨b, o, none⟩ : Addr).block ≠ some n := fun o => by have := h.hn; have := h.hb; simp; omega
  have h2 : ∀ o, some (⟨w.heap.size, o, none⟩ : Addr).block ≠ some n := fun o => by have := h.hn; simp; omega
  have h3 : w.heap.size < wr.heap.size := Nat.lt_trans h.hb h.sz
  exact ⟨h.d.trans hd, hd.gr.cell h.c0 (h1 _), hd.gr.cell h.c1 (h1 _), hd.gr.cell h.c2 (h1 _), (hd.gr.frozen_far _ h.sz (h1 _)).trans h.f2, hd.gr.cell h.r0 (h2 _), hd.gr.cell h.r1 (h2 _), hd.gr.cell h.r2 (h2 _),
    (hd.gr.frozen_far _ h3 (h2 _)).trans h.g0, (hd.gr.frozen_far _ h3 (h2 _)).trans h.g1, (hd.gr.frozen_far _ h3 (h2 _)).trans h.g2, h.old, h.hn, h.hb, Nat.lt_of_lt_of_le h.sz hd.gr.size⟩
theorem SmRel.more {n : Nat} {ad : Option Addr} {len cap : Nat} {w : World} {b W H S : Nat} {wr w' : World} (h : SmRel n ad len cap w b W H S wr) (hb : Below wr.heap.size wr w') : SmRel n ad len cap w b W H S w' :=
  h.grown ((Drew.refl h.d.cur).more hb)
theorem SmRel.set {n : Nat} {ad : Option Addr} {len cap : Nat} {w : World} {b W H S : Nat} {wr : World} (h : SmRel n ad len cap w b W H S wr) (S' : Nat) : SmRel n ad len cap w b W H S' ((wr.setCell ⟨b, 2, none⟩ (.int .i64 S')).drew) := by
  have hg := set_grown wr b 2 (.int .i64 S')
  have o : ∀ (k o : Nat), (k ≠ b ∨ o ≠ 2) → ((wr.setCell ⟨b, 2, none⟩ (.int .i64 S')).drew).cell? ⟨k, o, none⟩ = wr.cell? ⟨k, o, none⟩ := fun k o hne => by
    rw [World.cell?_drew]
    exact World.cell?_setCell_other _ _ _ _ (by intro e; injection e with e1 e2; rcases hne with hne | hne <;> simp_all)
  have f : ∀ (k o : Nat), ((wr.setCell ⟨b, 2, none⟩ (.int .i64 S')).drew).frozen? ⟨k, o, none⟩ = wr.frozen? ⟨k, o, none⟩ := fun k o => by
    rw [World.frozen?_drew]; exact World.frozen?_setCell _ _ _ _
  have hb := h.hb
  refine ⟨?_, (o _ _ (.inr (by decide))).trans h.c0, (o _ _ (.inr (by decide))).trans h.c1, ?_, (f _ _).trans h.f2, (o _ _ (.inl (by omega))).trans h.r0, (o _ _ (.inl (by omega))).trans h.r1, (o _ _ (.inl (by omega))).trans h.r2,
    (f _ _).trans h.g0, (f _ _).trans h.g1, (f _ _).trans h.g2, h.old, h.hn, h.hb, by have := h.sz; simpa [World.setCell] using this⟩
  · exact (h.d.own h.hn h.old (Nat.le_of_lt h.hb) hg).more (Below.drew (Below.refl _ _))
  · rw [World.cell?_drew]; exact World.cell?_setCell_same _ _ _ h.c2
theorem SmRel.start {n : Nat} {ad : Option Addr} {len cap : Nat} {w w4 : World} {W H S : Nat} {t : TypeId} (hc : Cur n ad len cap w) (hd : Drew n ad len cap (w.alloc (.cells #[.int .i64 0, .int .i64 0, .int .i64 0] t)) w4) :
    SmRel n ad len cap w w4.heap.size W H S (w4.alloc (.cells #[.int .i64 W, .int .i64 H, .int .i64 S] t)) := by
  have hn := hc.sz
  have b0 := below1 w (.cells #[.int .i64 0, .int .i64 0, .int .i64 0] t)
  have D0 : Drew n ad len cap w w4 := ((Drew.refl hc).more b0).trans hd
  have h1 : w.heap.size < (w.alloc (.cells #[.int .i64 0, .int .i64 0, .int .i64 0] t)).heap.size := by simp
  have h2 : w.heap.size < w4.heap.size := Nat.lt_of_lt_of_le h1 hd.gr.size
  have hne : ∀ o, some (⟨w.heap.size, o, none⟩ : Addr).block ≠ some n := fun o => by simp; omega
  have e : ∀ o, (w4.alloc (.cells #[.int .i64 W, .int .i64 H, .int .i64 S] t)).cell? ⟨w.heap.size, o, none⟩ = w4.cell? ⟨w.heap.size, o, none⟩ := fun o => World.cell?_alloc_past _ _ _ h2
  have f : ∀ o, (w4.alloc (.cells #[.int .i64 W, .int .i64 H, .int .i64 S] t)).frozen? ⟨w.heap.size, o, none⟩ = false := fun o => by
    rw [World.frozen?_alloc_past _ _ _ h2, hd.gr.frozen_far ⟨w.heap.size, o, none⟩ h1 (hne o)]; exact World.frozen?_alloc_at _ _ _ _ rfl
  have c : ∀ o v, (#[.int .i64 0, .int .i64 0, .int .i64 0] : Array Value)[o]? = some v → w4.cell? ⟨w.heap.size, o, none⟩ = some v := fun o v hv => by
    refine hd.gr.cell ?_ (hne o)
    rw [World.cell?_alloc_at _ _ _ _ rfl, hv]
  have c' : ∀ o, (w4.alloc (.cells #[.int .i64 W, .int .i64 H, .int .i64 S] t)).cell? ⟨w4.heap.size, o, none⟩ = (#[.int .i64 W, .int .i64 H, .int .i64 S] : Array Value)[o]? := fun o => by
    rw [World.cell?_alloc_at _ _ _ _ rfl]
  exact ⟨D0.more (below1 _ _), c' 0, c' 1, c' 2, World.frozen?_alloc_at _ _ _ _ rfl, (e _).trans (c 0 _ rfl), (e _).trans (c 1 _ rfl), (e _).trans (c 2 _ rfl), f 0, f 1, f 2, hc.bytes.old, hn, h2, by simp⟩
theorem SmRel.done {n : Nat} {ad : Option Addr} {len cap : Nat} {w : World} {b W H S : Nat} {wr : World} (h : SmRel n ad len cap w b W H S wr) (v0 v1 v2 : Value) : Drew n ad len cap w (((wr.setCell ⟨w.heap.size, 0, none⟩ v0).setCell ⟨w.heap.size, 1, none⟩ v1).setCell ⟨w.heap.size, 2, none⟩ v2) :=
  ((h.d.own h.hn h.old (Nat.le_refl _) (set_grown _ _ 0 v0)).own h.hn h.old (Nat.le_refl _) (set_grown _ _ 1 v1)).own h.hn h.old (Nat.le_refl _) (set_grown _ _ 2 v2)

/-- A small board that is drawn. -/
def SmallRet (n : Nat) (ad : Option Addr) (len cap : Nat) (w : World) (e : Ending) (w' : World) : Prop := ∃ W H S : Nat, Ok W H S ∧ W ≤ 5 ∧ H ≤ 4 ∧ e = .returned (.agg #[.int .i64 W, .int .i64 H, .int .i64 S]) ∧ Drew n ad len cap w w'

set_option maxHeartbeats 3200000 in
theorem l02Small_any (n : Nat) (ad : Option Addr) (len cap : Nat) (w : World) (hc : Cur n ad len cap w) :
    Calls Tryd.prog 35 #[.pointer (some ⟨n, 0, none⟩)] w (SmallRet n ad len cap w) := by
  have HC := Lib.hid hc
  have D0 := (Drew.refl hc).more (below1 w (.cells #[.int .i64 0, .int .i64 0, .int .i64 0] 25))
  have hc0 := D0.cur
  clear D0
  go_enter Tryd.func35, Tryd.ntmps35
  go_wp2_with fail
  refine (l01Below_any n ad len cap 5 (by decide) _ hc0).mono ?_
  rintro e w1 ⟨r, hr0, hr1, _, _, rfl, hD1⟩
  have hr5 := hr1 (by decide)
  obtain ⟨W, hW⟩ : ∃ W : Nat, (1 : Int) + r = W := ⟨(1 + r).toNat, by omega⟩
  have hW1 : 1 ≤ W := by omega
  have hW5 : W ≤ 5 := by omega
  obtain ⟨q, hq⟩ : ∃ q, (16 : Int).tdiv (W : Int) = q := ⟨_, rfl⟩
  have hq0 : 0 ≤ q := by rw [← hq]; exact Int.tdiv_nonneg (by decide) (by omega)
  have hq16 : q ≤ 16 := by rw [← hq, Int.tdiv_eq_ediv_of_nonneg (by decide)]; exact Int.ediv_le_self _ (by decide)
  have hqd : (16 : Int) / (W : Int) = q := by rw [← hq, Int.tdiv_eq_ediv_of_nonneg (by decide)]
  have hqw : IntKind.i64.wrap q = q := Bit.i64_wrap _ (by omega) (by omega)
  have hW0 : ¬ W = 0 := by omega
  have hWi : ¬ (W : Int) = 0 := by omega
  clear hr1 hc0
  obtain ⟨m, hm⟩ : ∃ m : Int, (if q < 4 then q else 4) = m := ⟨_, rfl⟩
  have hm4 : m ≤ 4 := by rw [← hm]; split <;> omega
  go_wp2_with fail
  refine (l01Below_any n ad len cap m (by omega) _ hD1.cur).mono ?_
  rintro e w2 ⟨s, hs0, hs1, hs2, _, rfl, hD2⟩
  have hD := hD1.trans hD2
  have hs4 : s < 4 := by
    by_cases h : 0 < m
    · have := hs1 h; omega
    · have := hs2 (by omega); omega
  obtain ⟨H, hH⟩ : ∃ H : Nat, (1 : Int) + s = H := ⟨(1 + s).toNat, by omega⟩
  have hH1 : 1 ≤ H := by omega
  have hH4 : H ≤ 4 := by omega
  clear hD1 hD2 hs1 hs2 hq hqd hqw hm
  go_upto_region 3 with fail
  go_cut [22] from 8 (fun c wc => (∃ b : Bool, c = .bool b) ∧ wc = w2)
  case first =>
    by_cases h3 : W < 3
    · have h3i : (W : Int) < 3 := by omega
      go_wp2
      go_meet
      case rel => exact ⟨⟨_, rfl⟩, rfl⟩
    · have h3i : ¬ (W : Int) < 3 := by omega
      go_wp2
      go_meet
      case rel => exact ⟨⟨_, rfl⟩, rfl⟩
  case rest =>
  obtain ⟨⟨b, rfl⟩, rfl⟩ := hcut
  obtain ⟨H0, hH0⟩ : ∃ H0, H0 = H := ⟨_, rfl⟩
  go_upto_if 22 with fail
  go_cut [4] from 8 (fun c w' => (∃ H' : Nat, 1 ≤ H' ∧ H' ≤ 4 ∧ c = .int .i64 H') ∧ w' = wc)
  case first =>
    cases b
    · go_wp2
      go_meet
      case rel => exact ⟨⟨H, hH1, hH4, rfl⟩, rfl⟩
    · go_wp2
      go_meet
      case rel => exact ⟨⟨3, by omega, by omega, rfl⟩, rfl⟩
  case rest =>
  obtain ⟨⟨H', hH1', hH4', rfl⟩, rfl⟩ := hcut
  clear hH hH1 hH4 hH0 H0 H
  rename Nat => H
  have hH1 := hH1'
  have hH4 := hH4'
  clear hH1' hH4' hc hr0 hr5 hW hs0 hs4 hm4 m hq0 hq16 b
  have ho0 := Ok.full hW1 (by omega : W ≤ 7) (hH1) ((by omega : H ≤ 7))
  have hR := specRect_ok W H hW1 (by omega) hH1 (by omega : H ≤ 7)
  have hA0 := ho0.area
  obtain ⟨A, hA⟩ : ∃ A : Nat, W * H = A := ⟨_, rfl⟩
  have hm1 : (W : Int) * (H : Int) = (A : Int) := by rw [← hA]; simp
  rw [hA] at hR ho0 hA0
  obtain ⟨S0, hS0⟩ : ∃ S0, 2 ^ A - 1 = S0 := ⟨_, rfl⟩
  rw [hS0] at hR ho0
  have HO0 := Lib.hid ho0
  clear hS0 hA ho0
  go_wp2_with fail
  refine (hR _).mono ?_
  rintro e w3 ⟨rfl, hB3⟩
  have hD3 := hD.more hB3
  clear hD hB3 hR
  have hX := SmRel.start (W := W) (H := H) (S := S0) HC.out hD3
  go_wp2_with fail
  refine (l01Below_any n ad len cap 3 (by decide) _ (hD3.cur.kept (below1 _ _))).mono ?_
  rintro e w4 ⟨k0, hk0, hk1, _, _, rfl, hD4⟩
  have hk3 := hk1 (by decide)
  have hX4 := hX.grown hD4
  clear hX hD4 hD3 hk1
  have HX4 := Lib.hid hX4
  obtain ⟨b, hb⟩ : ∃ b, w3.heap.size = b := ⟨_, rfl⟩
  rw [hb] at HX4 hX4 ⊢
  clear hX4
  go_wp2_with fail
  go_loopw [6] (fun j wr => ∃ (k : Int) (S : Nat), j = .int .i64 k ∧ 0 ≤ k ∧ k ≤ 2 ∧ Ok W H S ∧ SmRel n ad len cap w b W H S wr) (fun j _ => (intOf j).toNat)
  case atStart => exact ⟨k0, S0, rfl, hk0, by omega, HO0.out, HX4.out⟩
  case round =>
    obtain ⟨k, S, rfl, hk0, hk2, ok, hX⟩ := hrel
    clear HX4 HO0
    have hS := Lib.hid ok.lt63
    have HOK := Lib.hid ok
    clear ok
    obtain ⟨C, hC⟩ : ∃ C, countH W H S = C := ⟨_, rfl⟩
    have hcc := fun w => specCountHoles_any W H S w
    rw [hC] at hcc
    have hC2 := hC
    have hC3 : Pop.pc 64 S = C := by rw [← hC]; exact (countH_ok HOK.out).symm
    have HLess := Lib.hid (fun (I : Nat) (hb : S.testBit I = true) (h5 : 5 < C) => Ok.less HOK.out hb (by rw [hC3]; exact h5))
    clear hC hC2 hC3
    by_cases hk : 0 < k
    · obtain ⟨dd, c0, c1, c2, f2, r0, r1, r2, g0, g1, g2, old, hn, hbb, sz⟩ := hX
      go_wp2_with fail
      refine (hcc _).mono ?_
      rintro e w5 ⟨rfl, hB5⟩
      have hX := (SmRel.mk dd c0 c1 c2 f2 r0 r1 r2 g0 g1 g2 old hn hbb sz).more hB5
      clear hB5 dd c0 c1 c2 f2 r0 r1 r2 g0 g1 g2 old hn hbb sz hcc
      by_cases hC5 : 5 < C
      · have hC5i : (5 : Int) < (C : Int) := by omega
        go_wp2_with fail
        refine (l01Below_any n ad len cap A (by omega) _ hX.d.cur).mono ?_
        rintro e w6 ⟨i, hi0, hi1, _, _, rfl, hD6⟩
        obtain ⟨I, rfl⟩ := Int.eq_ofNat_of_zero_le hi0
        have hiA : (I : Int) < (A : Int) := hi1 (by omega)
        have hX6 := hX.grown hD6
        have HX6 := Lib.hid hX6
        clear hX hD6 hi1
        obtain ⟨dd, c0, c1, c2, f2, r0, r1, r2, g0, g1, g2, old, hn, hbb, sz⟩ := hX6
        clear dd old
        cases hbit : S.testBit I
        · have q1 := and_one1 S I hS.out _ hbit
          clear hbit
          go_wp2
          go_roundw
          case rel => exact ⟨k - 1, S, rfl, by omega, by omega, HOK.out, HX6.out⟩
          case measure => simp [intOf]; omega
        · have q1 := and_one1 S I hS.out _ hbit
          have q2 := sub_pow S I hS.out (by omega) hbit
          have HN := Lib.hid (HLess.out I hbit hC5)
          obtain ⟨S', hS'⟩ : ∃ S', S - 2 ^ I = S' := ⟨_, rfl⟩
          rw [hS'] at q2 HN
          have HXS := Lib.hid (HX6.out.set S')
          clear hbit hS'
          go_wp2
          go_region
          all_goals (try go_wp2)
          all_goals go_roundw
          case rel => exact ⟨k - 1, S', rfl, by omega, by omega, HN.out, HXS.out⟩
          case measure => simp [intOf]; omega
      · have hC5i : ¬ (5 : Int) < (C : Int) := by omega
        have HX := Lib.hid hX
        obtain ⟨dd, c0, c1, c2, f2, r0, r1, r2, g0, g1, g2, old, hn, hbb, sz⟩ := hX
        clear dd old
        go_wp2
        obtain ⟨q0, q1, q2⟩ := read3 (.int .i64 W) (.int .i64 (H : Int)) (.int .i64 S) r0 r1 r2
        refine bodyPost_ret (v := .agg #[.int .i64 W, .int .i64 (H : Int), .int .i64 S]) (by simp [results, Tryd.results35, go_sem, q0, q1, q2]) rfl ⟨W, H, S, HOK.out, hW5, by omega, rfl, HX.out.done _ _ _⟩
    · have HX := Lib.hid hX
      obtain ⟨dd, c0, c1, c2, f2, r0, r1, r2, g0, g1, g2, old, hn, hbb, sz⟩ := hX
      clear dd hcc old
      go_wp2
      obtain ⟨q0, q1, q2⟩ := read3 (.int .i64 W) (.int .i64 (H : Int)) (.int .i64 S) r0 r1 r2
      refine bodyPost_ret (v := .agg #[.int .i64 W, .int .i64 (H : Int), .int .i64 S]) (by simp [results, Tryd.results35, go_sem, q0, q1, q2]) rfl ⟨W, H, S, HOK.out, hW5, by omega, rfl, HX.out.done _ _ _⟩
end Go.Proofs.YtnnoahoepljejaaDoor
