/- Elements User: data, and contracts of the statements' own helpers over them. No condition. -/
import Derived.Test.YtnhdpcmnnjgdkaaMark
import Derived.Deep.QuietTactic
import Derived.BigQuiet
import Derived.Deep.RegionHeld3
set_option linter.unusedVariables false
set_option linter.unusedSimpArgs false
namespace Go.Proofs.Ytnhdpcmnnjgdkaa
open Go.RowKit

structure User where
  name : ByteArray
  pass : ByteArray
def encUser (x : User) : List Value := [.string x.name, .string x.pass]
theorem encUser_len (x : User) : (encUser x).length = 2 := rfl
def UserFits (x : User) : Prop := x.name.size ≤ maxLen ∧ x.pass.size ≤ maxLen
theorem UserFits.name {x : User} (h : UserFits x) : x.name.size ≤ maxLen := h.1
theorem UserFits.pass {x : User} (h : UserFits x) : x.pass.size ≤ maxLen := h.2
def szUser (x : User) : Nat := x.name.size + x.pass.size
def sumUser (us : List User) : Nat := (us.map szUser).sum
theorem sumUser_take {us : List User} {k : Nat} (h : k < us.length) : sumUser (us.take (k + 1)) = sumUser (us.take k) + szUser us[k] := by
  rw [sumUser, sumUser, List.take_succ_eq_append_getElem h, List.map_append, List.sum_append, List.map_cons, List.map_nil, List.sum_cons, List.sum_nil, Nat.add_zero]
theorem sumUser_le (us : List User) (k : Nat) : sumUser (us.take k) ≤ sumUser us := by
  have h : sumUser us = sumUser (us.take k) + sumUser (us.drop k) := by rw [sumUser, sumUser, sumUser, ← List.sum_append, ← List.map_append, List.take_append_drop]
  omega

theorem Try.infoUser : (Try.prog.info? 53).map (fun i => (i.zero, i.size, i.bytes)) = some (some (.agg #[.string ByteArray.empty, .string ByteArray.empty]), 2, 32) := by kernel_rfl
def markUserE (m i : Nat) : List Value := [.string (mkText (m + i * 2 + 0)), .string (mkText (m + i * 2 + 1))]
theorem markUserE_len (m : Nat) (i : Nat) : (markUserE m i).length = 2 := rfl
def marksUser (m n : Nat) : List Value := (List.range n).flatMap (markUserE m)


end Go.Proofs.Ytnhdpcmnnjgdkaa
