/- FnExactRenewLease: the walk. No condition. -/
import Derived.Test.YtfoochgnilnddaaDoorLhRenewLease
import Derived.Test.YtfoochgnilnddaaDoorLeaseI
import Derived.Test.YtfoochgnilnddaaDoorLeaseL
namespace Go.Proofs.YtfoochgnilnddaaDoor
open Go.RowKit
theorem lawRenewLease (A : Option Addr) (n c : Nat) (us : List Lease) (x now by_ : Int) (w : World) (hr : Rd w w.heap.size 6 A n c (us.flatMap encLease)) (hn : us.length = n) (hf : ∀ u ∈ us, LeaseFits u) (hml : mlOk w) :
    Calls Tryd.prog 5 #[.agg #[.slice A n c], .int .i64 x, .int .i64 now, .int .i64 by_] w fun e w' => e = .returned (.bool true) ∧ Below w.heap.size w w' := by
  subst hn
  have hl := renU_len us x now by_
  obtain ⟨⟨rs, re⟩, hd⟩ : ∃ r, renU us x now by_ = r := ⟨_, rfl⟩
  rw [hd] at hl
  refine fnExactRenewLease_law A c us x now by_ rs re (fun h => Nat.le_trans (Nat.le_of_eq hl) h) w hr hf hml ?_ ?_
  · exact fun W a0 d0 h0 b0 hm => specRenewLease_hp a0 us.length d0 us x now by_ rs re W hd h0 rfl b0 hf
  · exact fun W a0 d0 h0 b0 hm => implRenewLease_hp a0 us.length d0 us x now by_ rs re W hd h0 rfl b0 hf hm
end Go.Proofs.YtfoochgnilnddaaDoor
