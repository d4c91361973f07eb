/-
  The walks of EncodeHex (impl and spec).
-/
import Derived.Test.YtnnoahoepljejaaDoorHexI
import Derived.Test.YtnnoahoepljejaaDoorBits
import Derived.StillTailTactics
import Derived.Deep.RegionHeld3
import Derived.Maps.AppendAt
import Derived.OwnWalk
import Derived.BigQuiet
import Derived.Deep.QuietTactic
namespace Go.Proofs.YtnnoahoepljejaaDoor
open Go.RowKit
set_option linter.unusedVariables false
set_option linter.unusedSimpArgs false

/-- A take with the temporary written out. -/
theorem takeE {P : Program} {ops : Array Oper} {Q : Exit → Act → World → Prop} {md : Region.Mode} {S : World → Prop} {i : Nat} {oi : Oper} {d : Option Tmp} {v : Value} {fuel : Nat} {listed : Array Bool} {a : Act} {w : World} (hi : ops[i]? = some oi)
    (hs : Region.noSelect ops = true) (hf : Region.free md ops listed i = true) (hr : (Region.ready md ops listed).contains i = true) (hd : oi.dst = d)
    (hQ : ∀ c a w, Q (.panic c) (a.put d v) w → Q (.panic c) a w) (hy : YieldsIf P ops S oi v a) (hS : S w)
    (h : wpAnyH P md ops Q S fuel (listed.setIfInBounds i true) (a.put d v) w) : wpAnyH P md ops Q S (fuel + 1) listed a w := by
  subst hd
  exact wpAnyH_take hi hs hf hr hQ hy hS h
/-- An append to a row of the call's own, as one step of a region that draws. -/
theorem step_append_own {P : Program} {o : Oper} {a : Act} {w : World} {K : Act → World → Prop} {Q : Exit → Act → World → Prop} {X : Prop} {y : Nat → Option Bool} (hgd : o.guard = none) (s x : Operand) (t : TypeId)
    (ho : o.op = .call { callee := .builtin .append, args := #[s, x], argTypes := #[t, t] })
    (base : Nat) (e : TypeId) (i : TypeInfo) (z : Value) (size bytes : Nat) (ht : P.underlying t = some (.slice e)) (hi : P.info? e = some i) (hz : i.zero = some z)
    (hsize : i.size = size) (hby : i.bytes = bytes) (hzs : z.cells.size = size) (hsz : 0 < size)
    (v : Value) (n : Nat) (xs : List Value) (hs : a.eval s = v) (hown : w.ownsRow base e size v n xs)
    (ad : Addr) (m c : Nat) (news : List Value) (hx : a.eval x = .slice (some ad) m c) (hl : news.length = m * size) (hnews : ∀ j u, news[j]? = some u → w.cell? (ad.add j) = some u) (h1 : ∀ u ∈ news, u.oneCell' = true)
    (h63 : n + m ≤ maxLen) (hbytes : (n + m) * bytes ≤ 140737488355328) (hbase : base ≤ w.heap.size)
    (h : ∀ v' w', w'.ownsRow base e size v' (n + m) (xs ++ news) → w.grownBy w' v.ownBlock → K (a.put o.dst v') w') :
    if Region.wanted o y = true then Oper.wp P o a w K Q else X := by
  rw [if_pos (by simp only [Region.wanted, hgd])]
  obtain ⟨v', w', hr, h2, h3, h4, h5⟩ := run_append_own_at (P := P) w base t o.type e i z size bytes ht hi hz hsize hby hzs hsz v n xs hown ad m c news hl hnews h1 h63 hbytes hbase
  unfold Oper.wp execOp
  simp only [ho, resolve, invoke, builtin, Sem.run_bind, Sem.run_pure, Result.andThen_ok, List.map_toArray, List.map_cons, List.map_nil, hs, hx, hr]
  exact h _ _ h2 h3

def hexText : ByteArray := ⟨#[48, 49, 50, 51, 52, 53, 54, 55, 56, 57, 97, 98, 99, 100, 101, 102]⟩
theorem hex_at (D : Nat) (h : D < 16) : ((hexText[D]'(by show D < 16; exact h)).toNat : Int) = hexI D := by
  have : D = 0 ∨ D = 1 ∨ D = 2 ∨ D = 3 ∨ D = 4 ∨ D = 5 ∨ D = 6 ∨ D = 7 ∨ D = 8 ∨ D = 9 ∨ D = 10 ∨ D = 11 ∨ D = 12 ∨ D = 13 ∨ D = 14 ∨ D = 15 := by omega
  rcases this with rfl | rfl | rfl | rfl | rfl | rfl | rfl | rfl | rfl | rfl | rfl | rfl | rfl | rfl | rfl | rfl <;> rfl

theorem l01Figure_any (x : Int) (h0 : 0 ≤ x) (h1 : x ≤ 15) (w : World) :
    Calls Tryd.prog 47 #[.int .i64 x] w fun e w' => e = .returned (.int .u8 (hexI x)) ∧ w' = w := by
  by_cases h : x < 10
  · go_enter Tryd.func47, Tryd.ntmps47
    go_wp2
    go_ret
    exact ⟨by unfold hexI; rw [if_pos h]; rfl, rfl⟩
  · go_enter Tryd.func47, Tryd.ntmps47
    go_wp2
    go_ret
    exact ⟨by unfold hexI; rw [if_neg (by omega), show 87 + x = 97 + x - 10 from by omega]; rfl, rfl⟩
theorem byte_nat (s : ByteArray) (k : Nat) (hk : k < s.size) : ∃ D E : Nat, D < 16 ∧ E < 16 ∧ ((s[k].toNat : Int) / 16 = D) ∧ ((s[k].toNat : Int) % 16 = E) ∧ byteI s k / 16 = D ∧ byteI s k % 16 = E := by
  have hb : byteI s k = (s[k].toNat : Int) := by
    unfold byteI
    have : s.data[k]? = some s[k] := by
      rw [Array.getElem?_eq_getElem (by exact hk)]; rfl
    rw [this]; rfl
  have h2 := s[k].toNat_lt
  refine ⟨s[k].toNat / 16, s[k].toNat % 16, by omega, by omega, by omega, by omega, by rw [hb]; omega, by rw [hb]; omega⟩

theorem EncodeHex_no (s : ByteArray) (hs : ¬ s.size ≤ 20000) (w : World) :
    Calls Tryd.prog 29 #[.string s] w fun e w' => e = .returned (.tuple #[.string ByteArray.empty, .bool false]) ∧ Below w.heap.size w w' := by
  have h1 : (20000 : Int) < (s.size : Int) := by omega
  go_enter Tryd.func29, Tryd.ntmps29
  go_wp2
  go_ret2
  exact ⟨rfl, Below.refl _ _⟩

set_option maxHeartbeats 800000 in
set_option maxRecDepth 100000 in
theorem EncodeHex_yes (s : ByteArray) (hs : s.size ≤ 20000) (w : World) :
    Calls Tryd.prog 29 #[.string s] w fun e w' => e = .returned (.tuple #[.string (strOfNums (encI s s.size)), .bool true]) ∧ Below w.heap.size w w' := by
  obtain ⟨i0, hi, hz0, hz1, hz2⟩ := info_parts info_u8
  go_enter Tryd.func29, Tryd.ntmps29
  go_wp2_with (at_make; refine wpList_make_own _ rfl _ _ 22 rfl w.heap.size 5 i0 (.int .u8 0) 1 Tryd.underlying22 hi hz0 hz1 _ _ _ (2 * s.size) rfl rfl ?c0 ?c1 ?c2 ?c3 ?_)
  case c0 => simp
  case c1 => rw [hz2]; omega
  case c2 => unfold maxLen; omega
  case c3 => omega
  intro ws hown hgr
  have R0 : RowU ws w.heap.size (.slice (some ⟨w.heap.size, 0, none⟩) 0 (2 * s.size)) [] := hown
  have hBel := (Below.refl w.heap.size w).grown hgr (Nat.le_refl _) (fun k hk => by simp at hk)
  clear hown hgr
  go_wp2_with fail
  go_loopw [4, 5] (fun v j wr => ∃ k : Nat, k ≤ s.size ∧ j = .int .i64 k ∧ RowU wr w.heap.size v (encI s k) ∧ Below w.heap.size w wr) (fun _ j _ => s.size - (intOf j).toNat)
  case atStart => exact ⟨0, by omega, rfl, R0, hBel⟩
  case round =>
    obtain ⟨k, hk, rfl, hrow, hB⟩ := hrel
    by_cases hlt : ¬ k < s.size
    · have hge : k = s.size := by omega
      have hcv := RowU.str (P := Tryd.prog) hrow 22 9 Tryd.underlying22 Tryd.underlying5 Tryd.underlying9
      go_wp2
      go_ret2
      exact ⟨by rw [hge]; rfl, hB⟩
    have hlt : k < s.size := by omega
    have hI0 : (0 : Int) ≤ (k : Int) := by omega
    have hI1 : (k : Int) < (s.size : Int) := by omega
    obtain ⟨D, E, hD, hE, q1, q2, q3, q4⟩ := byte_nat s k hlt
    have hu := s[k].toNat_lt
    have hlen := encI_len s k
    have henc : encI s (k + 1) = encI s k ++ [hexI D, hexI E] := by rw [encI, q3, q4]
    obtain ⟨xs, hxs⟩ : ∃ xs, encI s k = xs := ⟨_, rfl⟩
    rw [hxs] at hrow hlen henc
    have Henc := Lib.hid henc
    have hszr := hB.size
    have g0 : IntKind.u8.wrap (D : Int) = D := by unfold IntKind.wrap; simp [IntKind.bits, IntKind.signed]; omega
    have g1 : IntKind.u8.wrap (E : Int) = E := by unfold IntKind.wrap; simp [IntKind.bits, IntKind.signed]; omega
    have g2 := hex_at D hD
    have g3 := hex_at E hE
    have m2 : ((s[k].toNat : Nat) : Int).tmod 16 = (E : Int) := by rw [Int.tmod_eq_emod_of_nonneg (by omega)]; exact q2
    have m1 : ((s[k].toNat : Nat) : Int).tdiv 16 = (D : Int) := by rw [Int.tdiv_eq_ediv_of_nonneg (by omega)]; exact q1
    have w1 : IntKind.i64.wrap ((s[k].toNat : Nat) : Int) = ((s[k].toNat : Nat) : Int) := Bit.i64_wrap _ (by omega) (by omega)
    have w2 : IntKind.i64.wrap (D : Int) = (D : Int) := Bit.i64_wrap _ (by omega) (by omega)
    have w3 : IntKind.i64.wrap (E : Int) = (E : Int) := Bit.i64_wrap _ (by omega) (by omega)
    have l1 : (0 : Int) ≤ (D : Int) := by omega
    have l2 : (D : Int) < 16 := by omega
    have l3 : (0 : Int) ≤ (E : Int) := by omega
    have l4 : (E : Int) < 16 := by omega
    clear henc hxs q3 q4
    go_wp2_with fail
    refine wp_region_held_drew (S := fun w' : World => Below w.heap.size w w') (by kernel_rfl) hB.drew (fun hHeld => ?_)
    refine takeE (i := 0) (d := some 19) (v := u4) rfl (by kernel_rfl) (by kernel_rfl) (by kernel_rfl) rfl (fun _ _ _ h => h) (Or.inl ⟨by kernel_rfl, fun w1 hS1 => by rfl⟩) hHeld ?_
    simp only [Act.put, List.setIfInBounds_toArray, List.set_cons_zero, List.set_cons_succ]
    refine takeE (i := 1) (d := some 20) (v := .string s) rfl (by kernel_rfl) (by kernel_rfl) (by kernel_rfl) rfl (fun _ _ _ h => h) (Or.inl ⟨by kernel_rfl, fun w1 hS1 => by rfl⟩) hHeld ?_
    simp only [Act.put, List.setIfInBounds_toArray, List.set_cons_zero, List.set_cons_succ]
    refine takeE (i := 2) (d := some 21) (v := .int .i64 k) rfl (by kernel_rfl) (by kernel_rfl) (by kernel_rfl) rfl (fun _ _ _ h => h) (Or.inl ⟨by kernel_rfl, fun w1 hS1 => by rfl⟩) hHeld ?_
    simp only [Act.put, List.setIfInBounds_toArray, List.set_cons_zero, List.set_cons_succ]
    refine takeE (i := 3) (d := some 22) (v := .int .u8 (s[k].toNat : Nat)) rfl (by kernel_rfl) (by kernel_rfl) (by kernel_rfl) rfl (fun _ _ _ h => h) (Or.inl ⟨by kernel_rfl, fun w1 hS1 => by (try dsimp only at hS1); go_simp; try (first | exact g2 | exact g3)⟩) hHeld ?_
    simp only [Act.put, List.setIfInBounds_toArray, List.set_cons_zero, List.set_cons_succ]
    refine takeE (i := 4) (d := some 23) (v := .int .u8 (D : Nat)) rfl (by kernel_rfl) (by kernel_rfl) (by kernel_rfl) rfl (fun _ _ _ h => h) (Or.inl ⟨by kernel_rfl, fun w1 hS1 => by (try dsimp only at hS1); go_simp; try (first | exact g2 | exact g3)⟩) hHeld ?_
    simp only [Act.put, List.setIfInBounds_toArray, List.set_cons_zero, List.set_cons_succ]
    refine takeE (i := 5) (d := some 24) (v := .int .u8 (hexI D)) rfl (by kernel_rfl) (by kernel_rfl) (by kernel_rfl) rfl (fun _ _ _ h => h) (Or.inl ⟨by kernel_rfl, fun w1 hS1 => by (try dsimp only at hS1); go_simp; try (first | exact g2 | exact g3)⟩) hHeld ?_
    simp only [Act.put, List.setIfInBounds_toArray, List.set_cons_zero, List.set_cons_succ]
    refine takeE (i := 6) (d := some 25) (v := .string s) rfl (by kernel_rfl) (by kernel_rfl) (by kernel_rfl) rfl (fun _ _ _ h => h) (Or.inl ⟨by kernel_rfl, fun w1 hS1 => by rfl⟩) hHeld ?_
    simp only [Act.put, List.setIfInBounds_toArray, List.set_cons_zero, List.set_cons_succ]
    refine takeE (i := 7) (d := some 26) (v := .int .i64 k) rfl (by kernel_rfl) (by kernel_rfl) (by kernel_rfl) rfl (fun _ _ _ h => h) (Or.inl ⟨by kernel_rfl, fun w1 hS1 => by rfl⟩) hHeld ?_
    simp only [Act.put, List.setIfInBounds_toArray, List.set_cons_zero, List.set_cons_succ]
    refine takeE (i := 8) (d := some 27) (v := .int .u8 (s[k].toNat : Nat)) rfl (by kernel_rfl) (by kernel_rfl) (by kernel_rfl) rfl (fun _ _ _ h => h) (Or.inl ⟨by kernel_rfl, fun w1 hS1 => by (try dsimp only at hS1); go_simp; try (first | exact g2 | exact g3)⟩) hHeld ?_
    simp only [Act.put, List.setIfInBounds_toArray, List.set_cons_zero, List.set_cons_succ]
    refine takeE (i := 9) (d := some 28) (v := .int .u8 (E : Nat)) rfl (by kernel_rfl) (by kernel_rfl) (by kernel_rfl) rfl (fun _ _ _ h => h) (Or.inl ⟨by kernel_rfl, fun w1 hS1 => by (try dsimp only at hS1); go_simp; try (first | exact g2 | exact g3)⟩) hHeld ?_
    simp only [Act.put, List.setIfInBounds_toArray, List.set_cons_zero, List.set_cons_succ]
    refine takeE (i := 10) (d := some 29) (v := .int .u8 (hexI E)) rfl (by kernel_rfl) (by kernel_rfl) (by kernel_rfl) rfl (fun _ _ _ h => h) (Or.inl ⟨by kernel_rfl, fun w1 hS1 => by (try dsimp only at hS1); go_simp; try (first | exact g2 | exact g3)⟩) hHeld ?_
    simp only [Act.put, List.setIfInBounds_toArray, List.set_cons_zero, List.set_cons_succ]
    refine wpAnyH_ready (rs := [11]) (by kernel_rfl) (by simp) ?_
    refine AllReadyH.cons rfl (fun K hK => ?_) AllReadyH.nil
    go_simp
    refine hK.out _ _ (hHeld.more _) (fun hHeld => ?_)
    clear hK K
    (try simp only [Act.put, List.setIfInBounds_toArray, List.set_cons_zero, List.set_cons_succ])
    have hown := hrow
    unfold RowU at hown
    refine wpAnyH_ready (rs := [12]) (by kernel_rfl) (by simp) ?_
    refine AllReadyH.cons rfl (fun K hK => ?_) AllReadyH.nil
    refine step_append_own rfl _ _ 22 rfl w.heap.size 5 i0 (.int .u8 0) 1 1 Tryd.underlying22 hi hz0 hz1 hz2 rfl (by decide) u4 _ _ rfl (World.ownsRow.kept hown (grown_of_below (show Below wr.heap.size wr (wr.drew.alloc _) from (Below.drew (Below.refl _ _)).alloc (Nat.le_refl _) _)) (by cases hv : u4.ownBlock <;> simp)) ⟨wr.heap.size, 0, none⟩ 2 2 [.int .u8 (hexI D), .int .u8 (hexI E)] rfl rfl (cell_two _ _ _ _) (by simp [Value.oneCell']) (by unfold maxLen; omega) (by omega) (by simp; omega) ?_
    intro v' w3 hown' hgrow
    have R := Lib.hid (RowU.put hown')
    have hB3 := Lib.hid (hHeld.grown hgrow (by simp; omega) (fun j hj => (World.ownsRow.lt hown j hj).1))
    refine hK.out _ _ hB3.out (fun hHeld => ?_)
    clear hK K
    (try simp only [Act.put, List.setIfInBounds_toArray, List.set_cons_zero, List.set_cons_succ])
    refine takeE (i := 13) (d := some 4) (v := v') rfl (by kernel_rfl) (by kernel_rfl) (by kernel_rfl) rfl (fun _ _ _ h => h) (Or.inl ⟨by kernel_rfl, fun w1 hS1 => by rfl⟩) hHeld ?_
    simp only [Act.put, List.setIfInBounds_toArray, List.set_cons_zero, List.set_cons_succ]
    refine wpAnyH_done (by kernel_rfl) ?_ _
    clear hown hown' hgrow
    go_wp2
    go_roundw
    case rel => exact ⟨k + 1, by omega, by go_num, by rw [Henc.out]; exact R.out, hB3.out⟩
    case measure => simp [intOf]; omega

end Go.Proofs.YtnnoahoepljejaaDoor
