/- Elements Job: their rows as entries of a footprint. No condition. -/
import Derived.Test.YtnhdpcmnnjgdkaaElJob
import Derived.Test.YtnhdpcmnnjgdkaaM1
set_option linter.unusedVariables false
set_option linter.unusedSimpArgs false
namespace Go.Proofs.Ytnhdpcmnnjgdkaa
open Go.RowKit
set_option linter.unusedVariables false

abbrev rJob (A : Option Addr) (c : Nat) (us : List Job) : Ent := row 45 3 (.slice A us.length c) us.length (us.flatMap encJob)
theorem rJob_snoc (A : Option Addr) (c : Nat) (us : List Job) (u : Job) : row 45 3 (.slice A (us.length + 1) c) (us.length + 1) (us.flatMap encJob ++ encJob u) = rJob A c (us ++ [u]) := by simp [rJob]
theorem oneJob (u : Job) : ∀ x ∈ encJob u, x.oneCell' = true := by intro x hx; simp [encJob] at hx; rcases hx with rfl | rfl | rfl <;> rfl
end Go.Proofs.Ytnhdpcmnnjgdkaa
