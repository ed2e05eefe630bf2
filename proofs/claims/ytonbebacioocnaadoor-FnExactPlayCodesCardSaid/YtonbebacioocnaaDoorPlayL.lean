/- FnExactPlayCodes: the walk. No condition. -/
import Derived.Test.YtonbebacioocnaaDoorLhPlayCodes
import Derived.Test.YtonbebacioocnaaDoorPlayS
import Derived.Test.YtonbebacioocnaaDoorPlayI
namespace Go.Proofs.YtonbebacioocnaaDoor
open Go.RowKit
theorem lawPlayCodes (k c f u : Int) (A : Option Addr) (n cc : Nat) (cs : List ByteArray) (win : Int) (w : World) (hr : Rd w w.heap.size 1 A n cc (cs.flatMap encStr)) (hn : cs.length = n) (hq : ∀ x ∈ cs, x.size ≤ maxLen) (ht : tabOk w) :
    Calls Tryd.prog 11 #[.agg #[.int .i64 k, .int .i64 c, .int .i64 f, .int .i64 u], .slice A n cc, .int .i64 win] w fun e w' => e = .returned (.bool true) ∧ Below w.heap.size w w' := by
  subst hn
  exact fnExactPlayCodes_law k c f u A cc cs win (playCodes k c f u win cs).k (playCodes k c f u win cs).c (playCodes k c f u win cs).f (playCodes k c f u win cs).u (playCodes k c f u win cs).told (fun _ => playCodes_len k c f u win cs) w hr hq ht
    (fun W a d hr hb ht => specPlayCodes_any k c f u win a cs.length d cs W hr rfl ht) (fun W a d hr hb ht => implPlayCodes_any k c f u win a cs.length d cs W hr rfl ht)
end Go.Proofs.YtonbebacioocnaaDoor
