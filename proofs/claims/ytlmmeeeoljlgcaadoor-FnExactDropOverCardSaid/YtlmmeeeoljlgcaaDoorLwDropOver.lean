/- FnExactDropOver: the walk. No condition. -/
import Derived.Test.YtlmmeeeoljlgcaaDoorLhDropOver
import Derived.Test.YtlmmeeeoljlgcaaDoorOverA
import Derived.Test.YtlmmeeeoljlgcaaDoorOverB
set_option linter.unusedVariables false
set_option linter.unusedSimpArgs false
namespace Go.Proofs.YtlmmeeeoljlgcaaDoor
open Go.RowKit
theorem lawDropOver (A : Option Addr) (n c : Nat) (us : List Lease) (x : Int) (w : World) (hr : Rd w w.heap.size 6 A n c (us.flatMap encLease)) (hn : us.length = n) (hf : ∀ u ∈ us, LeaseFits u) (hml : mlOk w) :
    Calls Tryd.prog 3 #[.agg #[.slice A n c], .int .i64 x] w fun e w' => e = .returned (.bool true) ∧ Below w.heap.size w w' := by
  subst hn
  have hl := overU_len x us
  obtain ⟨⟨rs, gs⟩, hd⟩ : ∃ r, overU x us = r := ⟨_, rfl⟩
  rw [hd] at hl
  refine fnExactDropOver_law A c us x rs gs (fun h => Nat.le_trans hl.1 h) (fun h => Nat.le_trans hl.2 h) w hr hf hml ?_ ?_
  · exact fun W a0 d0 h0 b0 hm => specDropOver_hp a0 us.length d0 us x rs gs W hd h0 rfl b0 hf
  · exact fun W a0 d0 h0 b0 hm => implDropOver_hp a0 us.length d0 us x rs gs W hd h0 rfl b0 hf hm
end Go.Proofs.YtlmmeeeoljlgcaaDoor
