/- The container Far: its helpers over footprints. No condition. -/
import Derived.Test.YtaaloiloklnbiaaDoorCtFar
import Derived.Test.YtaaloiloklnbiaaDoorEnUser
namespace Go.Proofs.YtaaloiloklnbiaaDoor
open Go.RowKit
set_option linter.unusedVariables false

theorem toFar_hp (A0 : Option Addr) (c0 : Nat) (us0 : List User) (x1 : Int) (x2 : Int) (w : World) (hr0 : Rd w w.heap.size 2 A0 us0.length c0 (us0.flatMap encUser)) (hb0 : us0.length ≤ 1048576) :
    Calls Tryd.prog 17 #[.agg #[.slice A0 us0.length c0, .int .i64 x1, .int .i64 x2]] w fun e w' => ∃ A'0 c'0, e = .returned (.agg #[.slice A'0 us0.length c'0, .int .i64 x1, .int .i64 x2]) ∧ Hp w w' [rUser A'0 c'0 us0] :=
  (toFar_any A0 us0.length c0 us0 x1 x2 w hr0 rfl hb0).mono fun e w' ⟨A', c', he, h, hb'⟩ => ⟨A', c', he, Hp.ofOwn hb' h (Nat.le_refl _)⟩
theorem markFar_hp (A0 : Option Addr) (n0 c0 : Nat) (x1 : Int) (x2 : Int) (xs : List Value) (m : Nat) (mi : Int) (hmi : mi = (m : Int)) (w w0 : World) (L L' : List Ent) (H : Hp w0 w L) (hr : Rep L (row 34 2 (.slice A0 n0 c0) n0 xs) (row 34 2 (.slice A0 n0 c0) n0 (marksUser m n0)) L') (h0 : 0 < m) (hm : m + n0 * 2 ≤ 1125899906842624) :
    Calls Tryd.prog 21 #[.agg #[.slice A0 n0 c0, .int .i64 x1, .int .i64 x2], .int .i64 mi] w fun e w' => e = .returned (.int .i64 ((m + n0 * 2 : Nat) : Int)) ∧ Hp w0 w' L' :=
  by subst hmi; exact (markFar_any A0 n0 c0 xs x1 x2 m _ _ w (H.ownM hr.mem).1 h0 hm).mono fun e w' ⟨he, h, hc⟩ => ⟨he, H.chgM hr h hc⟩
theorem heldFar_hp (A0 : Option Addr) (n0 c0 : Nat) (x1 : Int) (x2 : Int) (m : Nat) (mi : Int) (hmi : mi = (m : Int)) (w : World) (hr : Rd w w.heap.size 2 A0 n0 c0 (marksUser m n0)) (h0 : 0 < m) (hm : m + n0 * 2 ≤ 1125899906842624) :
    Calls Tryd.prog 22 #[.agg #[.slice A0 n0 c0, .int .i64 x1, .int .i64 x2], .int .i64 mi] w fun e w' => e = .returned (.int .i64 ((m + n0 * 2 : Nat) : Int)) ∧ Below w.heap.size w w' := by subst hmi; exact heldFar_any A0 n0 c0 x1 x2 m w hr h0 hm
end Go.Proofs.YtaaloiloklnbiaaDoor
