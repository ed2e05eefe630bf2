/- Slices of strings: their rows as entries of a footprint, and the statements' own helpers over them. No condition. -/
import Derived.Test.YtnhdpcmnnjgdkaaMark
import Derived.Test.YtnhdpcmnnjgdkaaM1
import Derived.Test.YtnhdpcmnnjgdkaaM2
import Derived.Deep.QuietTactic
import Derived.BigQuiet
import Derived.Deep.RegionWith
set_option linter.unusedVariables false
set_option linter.unusedSimpArgs false
namespace Go.Proofs.Ytnhdpcmnnjgdkaa
open Go.RowKit
set_option linter.unusedVariables false
set_option linter.unusedSimpArgs false
def encStr (x : ByteArray) : List Value := [.string x]
theorem encStr_len (x : ByteArray) : (encStr x).length = 1 := rfl
abbrev rStr (A : Option Addr) (c : Nat) (us : List ByteArray) : Ent := row 9 1 (.slice A us.length c) us.length (us.flatMap encStr)
theorem rStr_snoc (A : Option Addr) (c : Nat) (us : List ByteArray) (u : ByteArray) : row 9 1 (.slice A (us.length + 1) c) (us.length + 1) (us.flatMap encStr ++ encStr u) = rStr A c (us ++ [u]) := by simp [rStr]
theorem oneStr (u : ByteArray) : ∀ x ∈ encStr u, x.oneCell' = true := by intro x hx; simp [encStr] at hx; subst hx; rfl
theorem Try.infoStr : (Try.prog.info? 9).map (fun i => (i.zero, i.size, i.bytes)) = some (some (.string ByteArray.empty), 1, 16) := by kernel_rfl
def marksStr (m n : Nat) : List Value := (List.range n).flatMap fun i => [.string (mkText (m + i))]
theorem marksStr_len (m n : Nat) : (marksStr m n).length = n := by
  rw [marksStr, flat_len (fun i => [.string (mkText (m + i))]) 1 (fun _ => rfl)]; simp
end Go.Proofs.Ytnhdpcmnnjgdkaa
