/- FnExactQueueQuiet: the walk. No condition. -/
import Derived.Test.YtinenkjfdmajkaaLhQueueQuiet
import Derived.Test.YtinenkjfdmajkaaQuietB
namespace Go.Proofs.Ytinenkjfdmajkaa
open Go.RowKit
theorem lawQueueQuiet (A : Option Addr) (n c : Nat) (js : List Job) (A' : Option Addr) (m c' : Nat) (us : List User) (fail made : Int) (w : World) (hr : Rd w w.heap.size 3 A n c (js.flatMap encJob)) (hn : js.length = n) (hf : ∀ u ∈ js, JobFits u)
    (hr' : Rd w w.heap.size 2 A' m c' (us.flatMap encUser)) (hn' : us.length = m) (hf' : ∀ u ∈ us, UserFits u) :
    Calls Try.prog 11 #[.agg #[.slice A n c], .agg #[.slice A' m c', .int .i64 fail, .int .i64 made]] w fun e w' => e = .returned (.bool true) ∧ Below w.heap.size w w' := by
  subst hn hn'
  exact fnExactQueueQuiet_law A c js A' c' us fail made (quietF js us fail made) w hr hf hr' hf' (fun W a0 d0 a1 d1 h0 b0 h1 b1 => specQueueQuiet_any a0 js.length d0 js a1 us.length d1 us fail made W h0 rfl hf b0 h1 rfl hf' b1) (fun W a0 d0 a1 d1 h0 b0 h1 b1 => implQueueQuiet_any a0 js.length d0 js a1 us.length d1 us fail made W h0 rfl hf b0 h1 rfl hf' b1)
end Go.Proofs.Ytinenkjfdmajkaa
