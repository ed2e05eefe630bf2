/- The container Book: its helpers over footprints. No condition. -/
import Derived.Test.YtlmmeeeoljlgcaaDoorCtBook
import Derived.Test.YtlmmeeeoljlgcaaDoorM3
set_option linter.unusedVariables false
set_option linter.unusedSimpArgs false
namespace Go.Proofs.YtlmmeeeoljlgcaaDoor
open Go.RowKit
set_option linter.unusedVariables false

theorem toBook_hp (A0 : Option Addr) (c0 : Nat) (us0 : List Lease) (w : World) (hr0 : Rd w w.heap.size 6 A0 us0.length c0 (us0.flatMap encLease)) (hb0 : us0.length ≤ 1048576) :
    Calls Tryd.prog 7 #[.agg #[.slice A0 us0.length c0]] w fun e w' => ∃ A'0 c'0, e = .returned (.agg #[.slice A'0 us0.length c'0]) ∧ Hp w w' [rLease A'0 c'0 us0] :=
  (toBook_any A0 us0.length c0 us0 w hr0 rfl hb0).mono fun e w' ⟨A', c', he, h, hb'⟩ => ⟨A', c', he, Hp.ofOwn hb' h (Nat.le_refl _)⟩
theorem markBook_hp (A0 : Option Addr) (n0 c0 : Nat) (xs : List Value) (m : Nat) (mi : Int) (hmi : mi = (m : Int)) (w w0 : World) (L L' : List Ent) (H : Hp w0 w L) (hr : Rep L (row 40 6 (.slice A0 n0 c0) n0 xs) (row 40 6 (.slice A0 n0 c0) n0 (marksLease m n0)) L') (h0 : 0 < m) (hm : m + n0 * 6 ≤ 1125899906842624) :
    Calls Tryd.prog 11 #[.agg #[.slice A0 n0 c0], .int .i64 mi] w fun e w' => e = .returned (.int .i64 ((m + n0 * 6 : Nat) : Int)) ∧ Hp w0 w' L' :=
  by subst hmi; exact (markBook_any A0 n0 c0 xs m _ _ w (H.ownM hr.mem).1 h0 hm).mono fun e w' ⟨he, h, hc⟩ => ⟨he, H.chgM hr h hc⟩
theorem heldBook_hp (A0 : Option Addr) (n0 c0 : Nat) (m : Nat) (mi : Int) (hmi : mi = (m : Int)) (w : World) (hr : Rd w w.heap.size 6 A0 n0 c0 (marksLease m n0)) (h0 : 0 < m) (hm : m + n0 * 6 ≤ 1125899906842624) :
    Calls Tryd.prog 13 #[.agg #[.slice A0 n0 c0], .int .i64 mi] w fun e w' => e = .returned (.int .i64 ((m + n0 * 6 : Nat) : Int)) ∧ Below w.heap.size w w' := by subst hmi; exact heldBook_any A0 n0 c0 m w hr h0 hm
end Go.Proofs.YtlmmeeeoljlgcaaDoor
