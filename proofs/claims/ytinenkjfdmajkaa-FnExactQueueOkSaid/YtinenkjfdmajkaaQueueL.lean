/- FnExactQueueOk: the walk. No condition. -/
import Derived.Test.YtinenkjfdmajkaaQueueB
import Derived.Test.YtinenkjfdmajkaaLwQueueOk
namespace Go.Proofs.Ytinenkjfdmajkaa
open Go.RowKit
theorem lawQueueOk (A : Option Addr) (n c : Nat) (js : List Job) (w : World) (hr : Rd w w.heap.size 3 A n c (js.flatMap encJob)) (hn : js.length = n) (hf : ∀ u ∈ js, JobFits u) :
    Calls Try.prog 6 #[.agg #[.slice A n c]] w fun e w' => e = .returned (.bool true) ∧ Below w.heap.size w w' :=
  fnExactQueueOk_walk A n c js (queueOk js) w hr hn hf (fun W a d h => specQueueOk_any a n d js W h hn hf) (fun W a d h => implQueueOk_any a n d js W h hn hf)
end Go.Proofs.Ytinenkjfdmajkaa
