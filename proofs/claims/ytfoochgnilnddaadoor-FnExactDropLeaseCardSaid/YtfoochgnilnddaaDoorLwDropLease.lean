/- FnExactDropLease: the walk. No condition. -/
import Derived.Test.YtfoochgnilnddaaDoorLhDropLease
import Derived.Test.YtfoochgnilnddaaDoorLeaseJ
import Derived.Test.YtfoochgnilnddaaDoorLeaseK
namespace Go.Proofs.YtfoochgnilnddaaDoor
open Go.RowKit
theorem lawDropLease (A : Option Addr) (n c : Nat) (us : List Lease) (x : Int) (w : World) (hr : Rd w w.heap.size 6 A n c (us.flatMap encLease)) (hn : us.length = n) (hf : ∀ u ∈ us, LeaseFits u) (hml : mlOk w) :
    Calls Tryd.prog 4 #[.agg #[.slice A n c], .int .i64 x] w fun e w' => e = .returned (.bool true) ∧ Below w.heap.size w w' := by
  subst hn
  have hl := dropIdU_len us x
  obtain ⟨⟨rs, rb⟩, hd⟩ : ∃ r, dropIdU us x = r := ⟨_, rfl⟩
  rw [hd] at hl
  refine fnExactDropLease_law A c us x rs rb (fun h => Nat.le_trans hl h) w hr hf hml ?_ ?_
  · exact fun W a0 d0 h0 b0 hm => specDropLease_hp a0 us.length d0 us x rs rb W hd h0 rfl b0 hf
  · exact fun W a0 d0 h0 b0 hm => implDropLease_hp a0 us.length d0 us x rs rb W hd h0 rfl b0 hf hm
end Go.Proofs.YtfoochgnilnddaaDoor
