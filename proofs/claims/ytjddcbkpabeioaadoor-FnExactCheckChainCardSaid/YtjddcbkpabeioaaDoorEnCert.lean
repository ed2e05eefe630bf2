/- Elements Cert: their rows as entries of a footprint. No condition. -/
import Derived.Test.YtjddcbkpabeioaaDoorElCert
import Derived.Test.YtjddcbkpabeioaaDoorHp
namespace Go.Proofs.YtjddcbkpabeioaaDoor
open Go.RowKit
set_option linter.unusedVariables false

abbrev rCert (A : Option Addr) (c : Nat) (us : List Cert) : Ent := row 106 8 (.slice A us.length c) us.length (us.flatMap encCert)
theorem rCert_snoc (A : Option Addr) (c : Nat) (us : List Cert) (u : Cert) : row 106 8 (.slice A (us.length + 1) c) (us.length + 1) (us.flatMap encCert ++ encCert u) = rCert A c (us ++ [u]) := by simp [rCert]
theorem oneCert (u : Cert) : ∀ x ∈ encCert u, x.oneCell' = true := by intro x hx; simp [encCert] at hx; rcases hx with rfl | rfl | rfl | rfl | rfl | rfl | rfl | rfl <;> rfl
theorem toCertS_hp (A : Option Addr) (c : Nat) (us : List Cert) (w : World) (hr : Rd w w.heap.size 8 A us.length c (us.flatMap encCert)) (hb : us.length ≤ 1048576) :
    Calls Tryd.prog 64 #[.slice A us.length c] w fun e w' => ∃ A' c', e = .returned (.slice A' us.length c') ∧ Hp w w' [rCert A' c' us] :=
  (toCertS_any A us.length c us w hr rfl hb).mono fun e w' ⟨A', c', he, h, hb'⟩ => ⟨A', c', he, Hp.ofOwn hb' h (Nat.le_refl _)⟩
theorem markCertS_hp (A : Option Addr) (n c m : Nat) (mi : Int) (hmi : mi = (m : Int)) (xs : List Value) (w w0 : World) (L L' : List Ent) (H : Hp w0 w L) (hr : Rep L (row 106 8 (.slice A n c) n xs) (row 106 8 (.slice A n c) n (marksCert m n)) L') (h0 : 0 < m) (hm : m + n * 8 ≤ 1125899906842624) :
    Calls Tryd.prog 101 #[.slice A n c, .int .i64 mi] w fun e w' => e = .returned (.int .i64 ((m + n * 8 : Nat) : Int)) ∧ Hp w0 w' L' :=
  by subst hmi; exact (markCertS_any A n c m _ _ xs w (H.ownM hr.mem).1 h0 hm).mono fun e w' ⟨he, h, hc⟩ => ⟨he, H.chgM hr h hc⟩
theorem heldCertS_hp (A : Option Addr) (n c m : Nat) (mi : Int) (hmi : mi = (m : Int)) (w : World) (hr : Rd w w.heap.size 8 A n c (marksCert m n)) (h0 : 0 < m) (hm : m + n * 8 ≤ 1125899906842624) :
    Calls Tryd.prog 103 #[.slice A n c, .int .i64 mi] w fun e w' => e = .returned (.int .i64 ((m + n * 8 : Nat) : Int)) ∧ Below w.heap.size w w' := by subst hmi; exact heldCertS_any A n c m w hr h0 hm
end Go.Proofs.YtjddcbkpabeioaaDoor
