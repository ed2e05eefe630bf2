/- Slices of ints: their rows as entries of a footprint, and the statements' own helpers over them. No condition. -/
import Derived.Test.YtlmmeeeoljlgcaaDoorM1
import Derived.Test.YtlmmeeeoljlgcaaDoorCore
import Derived.Deep.QuietTactic
import Derived.BigQuiet
import Derived.Deep.RegionWith
set_option linter.unusedVariables false
set_option linter.unusedSimpArgs false
namespace Go.Proofs.YtlmmeeeoljlgcaaDoor
open Go.RowKit
set_option linter.unusedVariables false
set_option linter.unusedSimpArgs false
def encInt (x : Int) : List Value := [.int .i64 x]
theorem encInt_len (x : Int) : (encInt x).length = 1 := rfl
abbrev rInt (A : Option Addr) (c : Nat) (us : List Int) : Ent := row 3 1 (.slice A us.length c) us.length (us.flatMap encInt)
theorem rInt_snoc (A : Option Addr) (c : Nat) (us : List Int) (u : Int) : row 3 1 (.slice A (us.length + 1) c) (us.length + 1) (us.flatMap encInt ++ encInt u) = rInt A c (us ++ [u]) := by simp [rInt]
theorem oneInt (u : Int) : ∀ x ∈ encInt u, x.oneCell' = true := by intro x hx; simp [encInt] at hx; subst hx; rfl
theorem Tryd.infoInt : (Tryd.prog.info? 3).map (fun i => (i.zero, i.size, i.bytes)) = some (some (.int .i64 0), 1, 8) := by kernel_rfl
def marksInt (m n : Nat) : List Value := (List.range n).flatMap fun i => [.int .i64 ((m + i : Nat) : Int)]
theorem marksInt_len (m n : Nat) : (marksInt m n).length = n := by
  rw [marksInt, flat_len (fun i => [.int .i64 ((m + i : Nat) : Int)]) 1 (fun _ => rfl)]; simp
end Go.Proofs.YtlmmeeeoljlgcaaDoor
