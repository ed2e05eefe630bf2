/- FnExactDropUnder: the walk. No condition. -/
import Derived.Test.YtfoochgnilnddaaDoorLhDropUnder
import Derived.Test.YtfoochgnilnddaaDoorLeaseE
import Derived.Test.YtfoochgnilnddaaDoorLeaseG
namespace Go.Proofs.YtfoochgnilnddaaDoor
open Go.RowKit
theorem lawDropUnder (A : Option Addr) (n c : Nat) (us : List Lease) (p : ByteArray) (w : World) (hr : Rd w w.heap.size 6 A n c (us.flatMap encLease)) (hn : us.length = n) (hf : ∀ u ∈ us, LeaseFits u) (hp : p.size ≤ maxLen) (hml : mlOk w) :
    Calls Tryd.prog 3 #[.agg #[.slice A n c], .string p] w fun e w' => e = .returned (.bool true) ∧ Below w.heap.size w w' := by
  subst hn
  have hl := dropByU_len (pathF p) (isUnder p) us
  obtain ⟨⟨rs, gs⟩, hd⟩ : ∃ r, dropByU (pathF p) (isUnder p) us = r := ⟨_, rfl⟩
  rw [hd] at hl
  refine fnExactDropUnder_law A c us p rs gs (fun h => Nat.le_trans hl.1 h) (fun h => Nat.le_trans hl.2 h) w hr hf hp hml ?_ ?_
  · exact fun W a0 d0 h0 b0 hm => specDropUnder_hp a0 us.length d0 us p rs gs W hd h0 rfl b0 hf hp
  · exact fun W a0 d0 h0 b0 hm => implDropUnder_hp a0 us.length d0 us p rs gs W hd h0 rfl b0 hf hp hm
end Go.Proofs.YtfoochgnilnddaaDoor
