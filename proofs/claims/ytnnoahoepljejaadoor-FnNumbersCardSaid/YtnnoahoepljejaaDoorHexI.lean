/-
  Hexadecimal digits on plain numbers. No program in sight.
-/
import Derived.Test.YtnnoahoepljejaaDoorOwnU
namespace Go.Proofs.YtnnoahoepljejaaDoor

def hexI (x : Int) : Int := if x < 10 then 48 + x else 87 + x
/-- The byte at place k, as a number. -/
def byteI (s : ByteArray) (k : Nat) : Int := ((s.data[k]?.getD 0).toNat : Int)
theorem byteI_bd (s : ByteArray) (k : Nat) : 0 ≤ byteI s k ∧ byteI s k ≤ 255 := by
  unfold byteI
  have := (s.data[k]?.getD 0).toNat_lt
  omega
/-- The digits of the first k bytes. -/
def encI (s : ByteArray) : Nat → List Int
  | 0 => []
  | k + 1 => encI s k ++ [hexI (byteI s k / 16), hexI (byteI s k % 16)]
theorem encI_len (s : ByteArray) : ∀ k, (encI s k).length = 2 * k
  | 0 => rfl
  | k + 1 => by
    unfold encI
    rw [List.length_append, encI_len s k]; simp; omega
end Go.Proofs.YtnnoahoepljejaaDoor
