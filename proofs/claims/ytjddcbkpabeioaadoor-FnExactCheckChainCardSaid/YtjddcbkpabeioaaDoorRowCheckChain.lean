/- FnExactCheckChain answers true for every input, and each argument reads behind the call as before. No condition. -/
import Derived.Test.YtjddcbkpabeioaaDoorRowCheckChainA
import Derived.Test.YtjddcbkpabeioaaDoorRows
import Derived.Test.YtjddcbkpabeioaaDoorCards
import Derived.Test.YtjddcbkpabeioaaDoorTie
import Derived.ProofKit
import Derived.LaidMore
import Derived.LaidLaws
import Derived.OpenShut
import Derived.Stop.Joined
import Derived.SevenTiedAt
import Derived.Lib.LaidTab
import Derived.Lay
import Derived.Test.YtjddcbkpabeioaaDoorLwCheckChain
import Derived.Test.YtjddcbkpabeioaaDoorOpenAP
import Derived.Test.YtjddcbkpabeioaaDoorShape
namespace Go.Proofs.YtjddcbkpabeioaaDoor.rowCheckChain
open Go.Proofs.YtjddcbkpabeioaaDoor
open Go.ChangeShapes Go.WideShapes Go.ChangeAt Go.RowKit Go.Joins Go.Deep
set_option linter.unusedVariables false

theorem proved : Rows.FnExactCheckChainCardSaid :=
  Claim7.holds_tied_plain_at .later [] [.data, .pinned] true (true, "56ae0a3b7fe5db5007153f126b037c6dafd14d6dd8724ef69f62843c99840cc7") false
    over (fun _ h => by cases h) (by kernel_rfl) (fun _ h => by cases h) fnExactCheckChain_row_tie rfl ⟨rfl, rfl⟩ (by kernel_rfl) rfl
    (fun f fn hf hfn => by
      obtain rfl : f = 9 := Option.some.inj ((show Tryd.prog.funcNamed Rows.fnExactCheckChainRow.func = some 9 by kernel_rfl).symm.trans hf) |>.symm
      obtain rfl : fn = Tryd.f9 := (Option.some.inj (Tryd.func9.symm.trans hfn)).symm
      exact ⟨by kernel_rfl, fun j t ht => by
        rw [Tryd.params9] at ht
        have hm : t ∈ [37, 3, 3] := by simpa using Array.mem_of_getElem? ht
        have hall : ([37, 3, 3].all fun u => !Tryd.prog.wantsStandIn u) = true := by kernel_rfl
        exact (show Tryd.prog.wantsStandIn t = false by simpa using List.all_eq_true.1 hall t hm)⟩)
    (by kernel_rfl)
#print axioms proved
end Go.Proofs.YtjddcbkpabeioaaDoor.rowCheckChain
