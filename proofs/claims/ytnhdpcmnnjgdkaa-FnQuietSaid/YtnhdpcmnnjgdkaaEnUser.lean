/- Elements User: their rows as entries of a footprint. No condition. -/
import Derived.Test.YtnhdpcmnnjgdkaaElUser
import Derived.Test.YtnhdpcmnnjgdkaaM1
set_option linter.unusedVariables false
set_option linter.unusedSimpArgs false
namespace Go.Proofs.Ytnhdpcmnnjgdkaa
open Go.RowKit
set_option linter.unusedVariables false

abbrev rUser (A : Option Addr) (c : Nat) (us : List User) : Ent := row 53 2 (.slice A us.length c) us.length (us.flatMap encUser)
theorem rUser_snoc (A : Option Addr) (c : Nat) (us : List User) (u : User) : row 53 2 (.slice A (us.length + 1) c) (us.length + 1) (us.flatMap encUser ++ encUser u) = rUser A c (us ++ [u]) := by simp [rUser]
theorem oneUser (u : User) : ∀ x ∈ encUser u, x.oneCell' = true := by intro x hx; simp [encUser] at hx; rcases hx with rfl | rfl <;> rfl
end Go.Proofs.Ytnhdpcmnnjgdkaa
