/- The container Queue: its helpers over footprints. No condition. -/
import Derived.Test.YtonbebacioocnaaCtQueue
import Derived.Test.YtonbebacioocnaaEnJob
namespace Go.Proofs.Ytonbebacioocnaa
open Go.RowKit
set_option linter.unusedVariables false

theorem toQueue_hp (A0 : Option Addr) (c0 : Nat) (us0 : List Job) (w : World) (hr0 : Rd w w.heap.size 3 A0 us0.length c0 (us0.flatMap encJob)) (hb0 : us0.length ≤ 1048576) :
    Calls Try.prog 7 #[.agg #[.slice A0 us0.length c0]] w fun e w' => ∃ A'0 c'0, e = .returned (.agg #[.slice A'0 us0.length c'0]) ∧ Hp w w' [rJob A'0 c'0 us0] :=
  (toQueue_any A0 us0.length c0 us0 w hr0 rfl hb0).mono fun e w' ⟨A', c', he, h, hb'⟩ => ⟨A', c', he, Hp.ofOwn hb' h (Nat.le_refl _)⟩
theorem markQueue_hp (A0 : Option Addr) (n0 c0 : Nat) (xs : List Value) (m : Nat) (mi : Int) (hmi : mi = (m : Int)) (w w0 : World) (L L' : List Ent) (H : Hp w0 w L) (hr : Rep L (row 56 3 (.slice A0 n0 c0) n0 xs) (row 56 3 (.slice A0 n0 c0) n0 (marksJob m n0)) L') (h0 : 0 < m) (hm : m + n0 * 3 ≤ 1125899906842624) :
    Calls Try.prog 13 #[.agg #[.slice A0 n0 c0], .int .i64 mi] w fun e w' => e = .returned (.int .i64 ((m + n0 * 3 : Nat) : Int)) ∧ Hp w0 w' L' :=
  by subst hmi; exact (markQueue_any A0 n0 c0 xs m _ _ w (H.ownM hr.mem).1 h0 hm).mono fun e w' ⟨he, h, hc⟩ => ⟨he, H.chgM hr h hc⟩
theorem heldQueue_hp (A0 : Option Addr) (n0 c0 : Nat) (m : Nat) (mi : Int) (hmi : mi = (m : Int)) (w : World) (hr : Rd w w.heap.size 3 A0 n0 c0 (marksJob m n0)) (h0 : 0 < m) (hm : m + n0 * 3 ≤ 1125899906842624) :
    Calls Try.prog 16 #[.agg #[.slice A0 n0 c0], .int .i64 mi] w fun e w' => e = .returned (.int .i64 ((m + n0 * 3 : Nat) : Int)) ∧ Below w.heap.size w w' := by subst hmi; exact heldQueue_any A0 n0 c0 m w hr h0 hm
end Go.Proofs.Ytonbebacioocnaa
