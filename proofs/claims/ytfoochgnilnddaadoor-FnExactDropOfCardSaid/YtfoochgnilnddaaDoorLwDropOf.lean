/- FnExactDropOf: the walk. No condition. -/
import Derived.Test.YtfoochgnilnddaaDoorLhDropOf
import Derived.Test.YtfoochgnilnddaaDoorLeaseF
import Derived.Test.YtfoochgnilnddaaDoorLeaseG
namespace Go.Proofs.YtfoochgnilnddaaDoor
open Go.RowKit
theorem lawDropOf (A : Option Addr) (n c : Nat) (us : List Lease) (TA : Option Addr) (tn tc : Nat) (ts : List Int) (w : World) (hr : Rd w w.heap.size 6 A n c (us.flatMap encLease)) (hn : us.length = n) (hf : ∀ u ∈ us, LeaseFits u) (htr : Rd w w.heap.size 1 TA tn tc (ts.flatMap encInt)) (htn : ts.length = tn) (hml : mlOk w) :
    Calls Tryd.prog 6 #[.agg #[.slice A n c], .slice TA tn tc] w fun e w' => e = .returned (.bool true) ∧ Below w.heap.size w w' := by
  subst hn htn
  have hl := dropByU_len (decide (ts.length ≤ 200)) (isOf ts) us
  obtain ⟨⟨rs, gs⟩, hd⟩ : ∃ r, dropByU (decide (ts.length ≤ 200)) (isOf ts) us = r := ⟨_, rfl⟩
  rw [hd] at hl
  refine fnExactDropOf_law A c us TA tc ts rs gs (fun h _ => Nat.le_trans hl.1 h) (fun h _ => Nat.le_trans hl.2 h) w hr hf htr hml ?_ ?_
  · exact fun W a0 d0 a1 d1 h0 b0 h1 b1 hm => specDropOf_hp a0 us.length d0 us a1 ts.length d1 ts rs gs W hd h0 rfl b0 hf h1 rfl
  · exact fun W a0 d0 a1 d1 h0 b0 h1 b1 hm => implDropOf_hp a0 us.length d0 us a1 ts.length d1 ts rs gs W hd h0 rfl b0 hf h1 rfl hm
end Go.Proofs.YtfoochgnilnddaaDoor
