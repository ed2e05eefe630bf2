/- The statements' marks: markText. No condition. -/
import Derived.Test.YtnhdpcmnnjgdkaaM2
import Derived.Test.YtnhdpcmnnjgdkaaM1
set_option linter.unusedVariables false
set_option linter.unusedSimpArgs false
namespace Go.Proofs.Ytnhdpcmnnjgdkaa
open Go.RowKit

/-- The last f decimal digits of a number, none for 0. -/
def dg : Nat → Nat → List UInt8
  | 0, _ => []
  | f + 1, n => if n = 0 then [] else dg f (n / 10) ++ [UInt8.ofNat (48 + n % 10)]
theorem dg_zero (f : Nat) : dg f 0 = [] := by cases f <;> simp [dg]
theorem dg_step {f n : Nat} (hn : 0 < n) (hf : n < 10 ^ f) : ∃ g, f = g + 1 ∧ n / 10 < 10 ^ g ∧ dg f n = dg g (n / 10) ++ [UInt8.ofNat (48 + n % 10)] := by
  cases f with
  | zero => simp at hf; omega
  | succ g => exact ⟨g, rfl, by rw [Nat.pow_succ] at hf; omega, by rw [dg, if_neg (by omega)]⟩
def mkText (x : Nat) : ByteArray := ⟨(109 :: dg 20 x).toArray⟩

end Go.Proofs.Ytnhdpcmnnjgdkaa
