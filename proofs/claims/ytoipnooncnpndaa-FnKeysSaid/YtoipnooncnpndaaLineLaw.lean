/-
  The law on lines, in plain terms: every line can be used both ways, their number is even. No program in sight.
-/
import Derived.Test.YtoipnooncnpndaaWalkG
import Derived.Test.YtoipnooncnpndaaWalkC
import Derived.KernelRfl
namespace Go.Proofs.Ytoipnooncnpndaa
open Peg
set_option linter.unusedVariables false

theorem stepF_to {W H S k way B : Nat} (hW : 1 ≤ W) (hB : B < W * H) (hb : S.testBit B = true) (hx : ((B % W : Nat) : Int) = (k % W : Nat) + dX way) (hy : ((B / W : Nat) : Int) = (k / W : Nat) + dY way) : stepF W H S k way = B := by
  have h1 : B % W < W := Nat.mod_lt _ hW
  have h2 : B / W < H := Nat.div_lt_of_lt_mul hB
  have e := nat_eq_cell W B
  have ex : stepX W k way = ((B % W : Nat) : Int) := hx.symm
  have ey : stepY W k way = ((B / W : Nat) : Int) := hy.symm
  unfold stepF
  rw [ex, ey]
  have e2 : ((B / W : Nat) : Int) * (W : Int) + ((B % W : Nat) : Int) = (B : Int) := by rw [← Int.natCast_mul, ← Int.natCast_add, ← e]
  rw [e2, if_pos]
  simp only [Bool.and_eq_true, inB, decide_eq_true_eq, Int.toNat_natCast]
  exact ⟨⟨Int.natCast_nonneg _, by omega⟩, ⟨Int.natCast_nonneg _, by omega⟩, hb⟩

theorem way_of {dx dy : Int} (h : Dir dx dy) : ∃ way, way < 4 ∧ dX way = dx ∧ dY way = dy := by
  rcases h with ⟨rfl | rfl, rfl⟩ | ⟨rfl, rfl | rfl⟩
  · exact ⟨0, by decide, rfl, rfl⟩
  · exact ⟨2, by decide, rfl, rfl⟩
  · exact ⟨1, by decide, rfl, rfl⟩
  · exact ⟨3, by decide, rfl, rfl⟩

theorem mem_linesF {W H S A B C : Nat} {dx dy : Int} (ok : Ok W H S) (h : IsLn W H S A B C dx dy) : (⟨A, B, C⟩ : Ln) ∈ linesF W H S := by
  obtain ⟨a, b, c, ha, hb, hc, hd, h1, h2, h3, h4⟩ := h
  obtain ⟨way, hw, rfl, rfl⟩ := way_of hd
  have s1 : stepF W H S A way = B := stepF_to ok.w1 b hb h1 h2
  have s2 : stepF W H S B way = C := stepF_to ok.w1 c hc h3 h4
  have o1 : 0 ≤ stepF W H S A way := by rw [s1]; omega
  have s3 := beside_step ok o1
  rw [s1, Int.toNat_natCast, s2] at s3
  unfold linesF
  rw [List.mem_flatMap]
  refine ⟨A, ?_, ?_⟩
  · unfold holesN; simp [a, ha]
  · unfold linesAt
    rw [List.mem_filterMap]
    refine ⟨way, by simpa using hw, ?_⟩
    show (if 0 ≤ besideF W H S (stepF W H S A way) way then some (Ln.mk A (stepF W H S A way) (besideF W H S (stepF W H S A way) way)) else none) = _
    rw [s1, s3, if_pos (by omega)]

theorem linesF_pw {W H S : Nat} (ok : Ok W H S) : (linesF W H S).Pairwise fun x y => (x.a, x.c) ≠ (y.a, y.c) := by
  unfold linesF
  rw [List.pairwise_flatMap]
  constructor
  · intro k hk
    have hkm := holesN_mem hk
    unfold linesAt
    rw [List.pairwise_filterMap]
    have hn : (List.range 4).Pairwise fun x y => x ≠ y := List.nodup_range
    refine hn.imp_of_mem ?_
    intro x y hx hy hne l hl m hm he
    obtain ⟨B, C, rfl, hI⟩ := lineOf_form ok hkm.1 hkm.2 (by simpa using hx) hl
    obtain ⟨B', C', rfl, hI'⟩ := lineOf_form ok hkm.1 hkm.2 (by simpa using hy) hm
    simp only [Prod.mk.injEq, true_and] at he
    have hC : C = C' := by omega
    subst hC
    have h1 := hI.bx; have h2 := hI.cx; have h3 := hI.b_y; have h4 := hI.cy
    have k1 := hI'.bx; have k2 := hI'.cx; have k3 := hI'.b_y; have k4 := hI'.cy
    have ex : dX x = dX y := by omega
    have ey : dY x = dY y := by omega
    have hx4 : x < 4 := by simpa using hx
    have hy4 : y < 4 := by simpa using hy
    have : ∀ i, i < 4 → ∀ j, j < 4 → dX i = dX j → dY i = dY j → i = j := by decide
    exact hne (this x hx4 y hy4 ex ey)
  · have hn : (holesN S (W * H)).Pairwise fun x y => x ≠ y := List.Pairwise.filter _ List.nodup_range
    refine hn.imp_of_mem ?_
    intro k k' hk hk' hne x hx y hy he
    have hkm := holesN_mem hk
    have hkm' := holesN_mem hk'
    unfold linesAt at hx hy
    rw [List.mem_filterMap] at hx hy
    obtain ⟨u, hu, hx⟩ := hx
    obtain ⟨v, hv, hy⟩ := hy
    obtain ⟨B, C, rfl, hI⟩ := lineOf_form ok hkm.1 hkm.2 (by simpa using hu) hx
    obtain ⟨B', C', rfl, hI'⟩ := lineOf_form ok hkm'.1 hkm'.2 (by simpa using hv) hy
    simp only [Prod.mk.injEq] at he
    omega

theorem even_swap : ∀ (n : Nat) (ps : List (Int × Int)), ps.length ≤ n → ps.Nodup → (∀ x ∈ ps, (x.2, x.1) ∈ ps ∧ x.1 ≠ x.2) → ps.length % 2 = 0
  | _, [], _, _, _ => rfl
  | 0, x :: t, h, _, _ => by simp at h
  | n + 1, x :: t, h, hn, hs => by
    have hx := hs x (List.mem_cons_self ..)
    rw [List.nodup_cons] at hn
    have hy : (x.2, x.1) ∈ t := by
      rcases List.mem_cons.1 hx.1 with e | e
      · exact absurd (congrArg Prod.fst e).symm hx.2
      · exact e
    have hl := List.length_erase_of_mem hy
    have hpos : 0 < t.length := List.length_pos_of_mem hy
    have ih := even_swap n (t.erase (x.2, x.1)) (by rw [hl]; simp at h; omega) (hn.2.erase _) ?_
    · rw [hl] at ih
      simp only [List.length_cons]
      omega
    · intro z hz
      rw [hn.2.mem_erase_iff] at hz ⊢
      have hz1 := hs z (List.mem_cons_of_mem _ hz.2)
      refine ⟨⟨?_, ?_⟩, hz1.2⟩
      · intro e
        have e1 : z.2 = x.2 := congrArg Prod.fst e
        have e2 : z.1 = x.1 := congrArg Prod.snd e
        have : z = x := Prod.ext e2 e1
        exact hn.1 (this ▸ hz.2)
      · rcases List.mem_cons.1 hz1.1 with e | e
        · have e1 : z.2 = x.1 := congrArg Prod.fst e
          have e2 : z.1 = x.2 := congrArg Prod.snd e
          exact absurd (Prod.ext e2 e1) hz.1
        · exact e

theorem linesF_even {W H S : Nat} (ok : Ok W H S) : (linesF W H S).length % 2 = 0 := by
  have h := even_swap _ ((linesF W H S).map fun l => (l.a, l.c)) (Nat.le_refl _) ?_ ?_
  · simpa using h
  · unfold List.Nodup
    rw [List.pairwise_map]
    exact linesF_pw ok
  · intro x hx
    rw [List.mem_map] at hx
    obtain ⟨l, hl, rfl⟩ := hx
    obtain ⟨A, B, C, rfl, dx, dy, hI⟩ := linesF_form ok hl
    refine ⟨?_, by have := hI.distinct.2.2; simp; omega⟩
    rw [List.mem_map]
    exact ⟨⟨C, B, A⟩, mem_linesF ok hI.turn, rfl⟩

theorem find_mem {W H S A B C : Nat} {dx dy : Int} (ok : Ok W H S) (h : IsLn W H S A B C dx dy) : findL (linesF W H S) A C = some ⟨A, B, C⟩ := by
  have hm := mem_linesF ok h
  cases hf : findL (linesF W H S) A C with
  | none =>
    unfold findL at hf
    rw [List.find?_eq_none] at hf
    exact absurd (by simp) (hf _ hm)
  | some m =>
    have h1 := List.mem_of_find?_eq_some hf
    have h2 := List.find?_some hf
    obtain ⟨A', B', C', rfl, dx', dy', hI⟩ := linesF_form ok h1
    simp only [Bool.and_eq_true, beq_iff_eq] at h2
    have e1 : A' = A := by omega
    have e2 : C' = C := by omega
    subst e1 e2
    have := hI.mid; have := h.mid
    have e3 : B' = B := by omega
    rw [e3]

theorem two_of_mem {ls : List Ln} {x y : Ln} (hx : x ∈ ls) (hy : y ∈ ls) (hne : x.a ≠ y.a) : 2 ≤ ls.length := by
  match ls, hx, hy with
  | [z], hx, hy =>
    have ex : x = z := by simpa using hx
    have ey : y = z := by simpa using hy
    exact absurd (by rw [ex, ey]) hne
  | _ :: _ :: t, _, _ => simp

theorem through_two {W H S A B C : Nat} {dx dy : Int} (ok : Ok W H S) (h : IsLn W H S A B C dx dy) : 2 ≤ (throughL W H S B).length := by
  unfold throughL
  rw [linesL_ok ok]
  refine two_of_mem (x := ⟨A, B, C⟩) (y := ⟨C, B, A⟩) ?_ ?_ ?_
  · rw [List.mem_filter]; exact ⟨mem_linesF ok h, by simp [onL]⟩
  · rw [List.mem_filter]; exact ⟨mem_linesF ok h.turn, by simp [onL]⟩
  · have := h.distinct.2.2; simp; omega
theorem lone_not {W H S A B C : Nat} {dx dy : Int} (ok : Ok W H S) (h : IsLn W H S A B C dx dy) : loneB W H S B = false := by
  have h2 := through_two ok h
  unfold loneB
  have : ((throughL W H S B).length == 0) = false := by simp; intro e; rw [e] at h2; simp at h2
  rw [this, Bool.and_false]

/-- What the law asks of one line. -/
structure LineFit (W H S : Nat) (l : Ln) : Prop where
  nat : ∃ A B C : Nat, l = ⟨A, B, C⟩ ∧ A ≤ 48 ∧ B ≤ 48 ∧ C ≤ 48
  mid : l.a + l.c = 2 * l.b
  fwd : findL (linesL W H S) l.a l.c = some l
  back : findL (linesL W H S) l.c l.a = some ⟨l.c, l.b, l.a⟩
  lone : loneB W H S l.b = false
  two : 2 ≤ (throughL W H S l.b).length
theorem lineFit {W H S : Nat} (ok : Ok W H S) {l : Ln} (h : l ∈ linesF W H S) : LineFit W H S l := by
  obtain ⟨A, B, C, rfl, dx, dy, hI⟩ := linesF_form ok h
  have h49 := hI.lt49 ok
  refine ⟨⟨A, B, C, rfl, h49⟩, by have := hI.mid; simp; omega, ?_, ?_, lone_not ok hI, through_two ok hI⟩
  · rw [linesL_ok ok]; exact find_mem ok hI
  · rw [linesL_ok ok]; exact find_mem ok hI.turn

theorem rect_lines : ∀ W, W < 8 → ∀ H, H < 8 → 1 ≤ W → 1 ≤ H → (linesF W H (2 ^ (W * H) - 1)).length = 2 * ((W - 2) * H + W * (H - 2)) := by decide +kernel
theorem rectL (W H : Nat) (w1 : 1 ≤ W) (w7 : W ≤ 7) (h1 : 1 ≤ H) (h7 : H ≤ 7) : (linesL W H (2 ^ (W * H) - 1 : Nat)).length = 2 * ((W - 2) * H + W * (H - 2)) := by
  have ha := area_pos w1 h1
  have h2 : 2 ^ 1 ≤ 2 ^ (W * H) := Nat.pow_le_pow_right (by decide) ha
  rw [linesL_ok ⟨w1, w7, h1, h7, by omega, by omega⟩]
  exact rect_lines W (by omega) H (by omega) w1 h1
theorem cross_lines : (linesF 7 7 (crossTo 49)).length = 76 := by decide +kernel
theorem crossL : (linesL 7 7 (crossTo 49)).length = 76 := cross_lines
end Go.Proofs.Ytoipnooncnpndaa
