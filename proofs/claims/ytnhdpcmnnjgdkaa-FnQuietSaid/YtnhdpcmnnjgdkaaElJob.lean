/- Elements Job: data, and contracts of the statements' own helpers over them. No condition. -/
import Derived.Test.YtnhdpcmnnjgdkaaMark
import Derived.Deep.QuietTactic
import Derived.BigQuiet
import Derived.Deep.RegionHeld3
set_option linter.unusedVariables false
set_option linter.unusedSimpArgs false
namespace Go.Proofs.Ytnhdpcmnnjgdkaa
open Go.RowKit

structure Job where
  name : ByteArray
  at_ : Int
  tries : Int
def encJob (x : Job) : List Value := [.string x.name, .int .i64 x.at_, .int .i64 x.tries]
theorem encJob_len (x : Job) : (encJob x).length = 3 := rfl
def JobFits (x : Job) : Prop := x.name.size ≤ maxLen
theorem JobFits.name {x : Job} (h : JobFits x) : x.name.size ≤ maxLen := h
def szJob (x : Job) : Nat := x.name.size
def sumJob (us : List Job) : Nat := (us.map szJob).sum
theorem sumJob_take {us : List Job} {k : Nat} (h : k < us.length) : sumJob (us.take (k + 1)) = sumJob (us.take k) + szJob us[k] := by
  rw [sumJob, sumJob, List.take_succ_eq_append_getElem h, List.map_append, List.sum_append, List.map_cons, List.map_nil, List.sum_cons, List.sum_nil, Nat.add_zero]
theorem sumJob_le (us : List Job) (k : Nat) : sumJob (us.take k) ≤ sumJob us := by
  have h : sumJob us = sumJob (us.take k) + sumJob (us.drop k) := by rw [sumJob, sumJob, sumJob, ← List.sum_append, ← List.map_append, List.take_append_drop]
  omega

theorem Try.infoJob : (Try.prog.info? 45).map (fun i => (i.zero, i.size, i.bytes)) = some (some (.agg #[.string ByteArray.empty, .int .i64 0, .int .i64 0]), 3, 32) := by kernel_rfl
def markJobE (m i : Nat) : List Value := [.string (mkText (m + i * 3 + 0)), .int .i64 ((m : Int) + (i : Int) * 3 + 1), .int .i64 ((m : Int) + (i : Int) * 3 + 2)]
theorem markJobE_len (m : Nat) (i : Nat) : (markJobE m i).length = 3 := rfl
def marksJob (m n : Nat) : List Value := (List.range n).flatMap (markJobE m)


end Go.Proofs.Ytnhdpcmnnjgdkaa
