/- Elements User: their rows as entries of a footprint. No condition. -/
import Derived.Test.YtaaloiloklnbiaaDoorElUser
import Derived.Test.YtaaloiloklnbiaaDoorHp
namespace Go.Proofs.YtaaloiloklnbiaaDoor
open Go.RowKit
set_option linter.unusedVariables false

abbrev rUser (A : Option Addr) (c : Nat) (us : List User) : Ent := row 34 2 (.slice A us.length c) us.length (us.flatMap encUser)
theorem rUser_snoc (A : Option Addr) (c : Nat) (us : List User) (u : User) : row 34 2 (.slice A (us.length + 1) c) (us.length + 1) (us.flatMap encUser ++ encUser u) = rUser A c (us ++ [u]) := by simp [rUser]
theorem oneUser (u : User) : ∀ x ∈ encUser u, x.oneCell' = true := by intro x hx; simp [encUser] at hx; rcases hx with rfl | rfl <;> rfl
theorem toUserS_hp (A : Option Addr) (c : Nat) (us : List User) (w : World) (hr : Rd w w.heap.size 2 A us.length c (us.flatMap encUser)) (hb : us.length ≤ 1048576) :
    Calls Tryd.prog 48 #[.slice A us.length c] w fun e w' => ∃ A' c', e = .returned (.slice A' us.length c') ∧ Hp w w' [rUser A' c' us] :=
  (toUserS_any A us.length c us w hr rfl hb).mono fun e w' ⟨A', c', he, h, hb'⟩ => ⟨A', c', he, Hp.ofOwn hb' h (Nat.le_refl _)⟩
theorem markUserS_hp (A : Option Addr) (n c m : Nat) (mi : Int) (hmi : mi = (m : Int)) (xs : List Value) (w w0 : World) (L L' : List Ent) (H : Hp w0 w L) (hr : Rep L (row 34 2 (.slice A n c) n xs) (row 34 2 (.slice A n c) n (marksUser m n)) L') (h0 : 0 < m) (hm : m + n * 2 ≤ 1125899906842624) :
    Calls Tryd.prog 50 #[.slice A n c, .int .i64 mi] w fun e w' => e = .returned (.int .i64 ((m + n * 2 : Nat) : Int)) ∧ Hp w0 w' L' :=
  by subst hmi; exact (markUserS_any A n c m _ _ xs w (H.ownM hr.mem).1 h0 hm).mono fun e w' ⟨he, h, hc⟩ => ⟨he, H.chgM hr h hc⟩
theorem heldUserS_hp (A : Option Addr) (n c m : Nat) (mi : Int) (hmi : mi = (m : Int)) (w : World) (hr : Rd w w.heap.size 2 A n c (marksUser m n)) (h0 : 0 < m) (hm : m + n * 2 ≤ 1125899906842624) :
    Calls Tryd.prog 51 #[.slice A n c, .int .i64 mi] w fun e w' => e = .returned (.int .i64 ((m + n * 2 : Nat) : Int)) ∧ Below w.heap.size w w' := by subst hmi; exact heldUserS_any A n c m w hr h0 hm
end Go.Proofs.YtaaloiloklnbiaaDoor
