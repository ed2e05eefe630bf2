/- External systems: the reference's drop. No condition. -/
import Derived.Test.YtaaloiloklnbiaaDoorFarC
namespace Go.Proofs.YtaaloiloklnbiaaDoor
open Go.RowKit
set_option linter.unusedVariables false

theorem flatU_snoc (us : List User) (u : User) : us.flatMap encUser ++ encUser u = (us ++ [u]).flatMap encUser := by
  simp [List.flatMap_append]
def DropF (w : World) (rs : List User) (rf made rc : Int) (e : Ending) (w' : World) : Prop := ∃ A' c' lo hi, e = .returned (.tuple #[.agg #[.slice A' rs.length c', .int .i64 rf, .int .i64 made], .int .i64 rc]) ∧ Own w' lo hi 34 2 (.slice A' rs.length c') rs.length (rs.flatMap encUser) ∧ w.heap.size ≤ lo ∧ Below w.heap.size w w'
theorem keepU_skip {s : ByteArray} {us : List User} {k : Nat} (hk : k < us.length) (h : eqB us[k].name s = true) : keepU s (us.take (k + 1)) = keepU s (us.take k) := by
  rw [keepU, List.take_succ_eq_append_getElem hk, List.filter_append, List.filter_cons_of_neg (by rw [h]; simp)]
  simp [keepU]
theorem keepU_take {s : ByteArray} {us : List User} {k : Nat} (hk : k < us.length) (h : eqB us[k].name s = false) : keepU s (us.take (k + 1)) = keepU s (us.take k) ++ [us[k]] := by
  rw [keepU, List.take_succ_eq_append_getElem hk, List.filter_append, List.filter_cons_of_pos (by rw [h]; rfl)]
  simp [keepU]

end Go.Proofs.YtaaloiloklnbiaaDoor
