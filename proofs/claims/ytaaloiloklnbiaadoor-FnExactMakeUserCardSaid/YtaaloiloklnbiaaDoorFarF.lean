/- FnExactDropUser: the walk. No condition. -/
import Derived.Test.YtaaloiloklnbiaaDoorFarE
import Derived.Test.YtaaloiloklnbiaaDoorLwDropUser
namespace Go.Proofs.YtaaloiloklnbiaaDoor
open Go.RowKit
theorem wf64 {x : Int} (h : (Lit.int .i64 x).wf = true) : -9223372036854775808 ≤ x ∧ x ≤ 9223372036854775807 := by
  simp only [Lit.wf, Bool.and_eq_true, decide_eq_true_eq] at h
  exact h
end Go.Proofs.YtaaloiloklnbiaaDoor
