/- Elements Lease: their rows as entries of a footprint. No condition. -/
import Derived.Test.YtfoochgnilnddaaDoorElLease
import Derived.Test.YtfoochgnilnddaaDoorHp
namespace Go.Proofs.YtfoochgnilnddaaDoor
open Go.RowKit
set_option linter.unusedVariables false

abbrev rLease (A : Option Addr) (c : Nat) (us : List Lease) : Ent := row 53 6 (.slice A us.length c) us.length (us.flatMap encLease)
theorem rLease_snoc (A : Option Addr) (c : Nat) (us : List Lease) (u : Lease) : row 53 6 (.slice A (us.length + 1) c) (us.length + 1) (us.flatMap encLease ++ encLease u) = rLease A c (us ++ [u]) := by simp [rLease]
theorem oneLease (u : Lease) : ∀ x ∈ encLease u, x.oneCell' = true := by intro x hx; simp [encLease] at hx; rcases hx with rfl | rfl | rfl | rfl | rfl | rfl <;> rfl
theorem toLeaseS_hp (A : Option Addr) (c : Nat) (us : List Lease) (w : World) (hr : Rd w w.heap.size 6 A us.length c (us.flatMap encLease)) (hb : us.length ≤ 1048576) :
    Calls Tryd.prog 44 #[.slice A us.length c] w fun e w' => ∃ A' c', e = .returned (.slice A' us.length c') ∧ Hp w w' [rLease A' c' us] :=
  (toLeaseS_any A us.length c us w hr rfl hb).mono fun e w' ⟨A', c', he, h, hb'⟩ => ⟨A', c', he, Hp.ofOwn hb' h (Nat.le_refl _)⟩
theorem markLeaseS_hp (A : Option Addr) (n c m : Nat) (mi : Int) (hmi : mi = (m : Int)) (xs : List Value) (w w0 : World) (L L' : List Ent) (H : Hp w0 w L) (hr : Rep L (row 53 6 (.slice A n c) n xs) (row 53 6 (.slice A n c) n (marksLease m n)) L') (h0 : 0 < m) (hm : m + n * 6 ≤ 1125899906842624) :
    Calls Tryd.prog 16 #[.slice A n c, .int .i64 mi] w fun e w' => e = .returned (.int .i64 ((m + n * 6 : Nat) : Int)) ∧ Hp w0 w' L' :=
  by subst hmi; exact (markLeaseS_any A n c m _ _ xs w (H.ownM hr.mem).1 h0 hm).mono fun e w' ⟨he, h, hc⟩ => ⟨he, H.chgM hr h hc⟩
theorem heldLeaseS_hp (A : Option Addr) (n c m : Nat) (mi : Int) (hmi : mi = (m : Int)) (w : World) (hr : Rd w w.heap.size 6 A n c (marksLease m n)) (h0 : 0 < m) (hm : m + n * 6 ≤ 1125899906842624) :
    Calls Tryd.prog 18 #[.slice A n c, .int .i64 mi] w fun e w' => e = .returned (.int .i64 ((m + n * 6 : Nat) : Int)) ∧ Below w.heap.size w w' := by subst hmi; exact heldLeaseS_any A n c m w hr h0 hm
end Go.Proofs.YtfoochgnilnddaaDoor
