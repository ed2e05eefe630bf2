/- A certificate given field by field: the statements' own helpers over it (to, sz). No condition. -/
import Derived.Test.YtaaloiloklnbiaaGreatDoorElCert
namespace Go.Proofs.YtaaloiloklnbiaaGreatDoor
open Go.RowKit
theorem toCertF_any (ser : Int) (owner : ByteArray) (iss from_ to_ : Int) (ca : Bool) (depth mark : Int) (w : World) :
    Calls Tryz.prog 17 #[.agg #[.int .i64 ser, .string owner, .int .i64 iss, .int .i64 from_, .int .i64 to_, .bool ca, .int .i64 depth, .int .i64 mark]] w fun e w' => e = .returned (.agg #[.int .i64 ser, .string owner, .int .i64 iss, .int .i64 from_, .int .i64 to_, .bool ca, .int .i64 depth, .int .i64 mark]) ∧ Below w.heap.size w w' :=
  toCert_any ⟨ser, owner, iss, from_, to_, ca, depth, mark⟩ w
theorem szCertF_any (ser : Int) (owner : ByteArray) (iss from_ to_ : Int) (ca : Bool) (depth mark : Int) (left : Int) (w : World) (h0 : 0 ≤ left) (h1 : left ≤ 1048576) (hf : owner.size ≤ maxLen) :
    Calls Tryz.prog 15 #[.agg #[.int .i64 ser, .string owner, .int .i64 iss, .int .i64 from_, .int .i64 to_, .bool ca, .int .i64 depth, .int .i64 mark], .int .i64 left] w fun e w' => e = .returned (.int .i64 (leftOf left owner.size)) ∧ Below w.heap.size w w' :=
  szCert_any ⟨ser, owner, iss, from_, to_, ca, depth, mark⟩ left w h0 h1 hf
end Go.Proofs.YtaaloiloklnbiaaGreatDoor
