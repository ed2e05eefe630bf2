/- Elements Cert: their rows as entries of a footprint. No condition. -/
import Derived.Test.YtaaloiloklnbiaaGreatDoorElCert
import Derived.Test.YtaaloiloklnbiaaGreatDoorHp
import Derived.Test.YtaaloiloklnbiaaGreatDoorElCertKey
namespace Go.Proofs.YtaaloiloklnbiaaGreatDoor
open Go.RowKit
set_option linter.unusedVariables false

abbrev rCert (A : Option Addr) (c : Nat) (us : List Cert) : Ent := row 30 8 (.slice A us.length c) us.length (us.flatMap encCert)
theorem rCert_snoc (A : Option Addr) (c : Nat) (us : List Cert) (u : Cert) : row 30 8 (.slice A (us.length + 1) c) (us.length + 1) (us.flatMap encCert ++ encCert u) = rCert A c (us ++ [u]) := by simp [rCert]
theorem oneCert (u : Cert) : ∀ x ∈ encCert u, x.oneCell' = true := by intro x hx; simp [encCert] at hx; rcases hx with rfl | rfl | rfl | rfl | rfl | rfl | rfl | rfl <;> rfl
theorem toCertS_hp (A : Option Addr) (c : Nat) (us : List Cert) (w : World) (hr : Rd w w.heap.size 8 A us.length c (us.flatMap encCert)) (hb : us.length ≤ 1048576) :
    Calls Tryz.prog 51 #[.slice A us.length c] w fun e w' => ∃ A' c', e = .returned (.slice A' us.length c') ∧ Hp w w' [rCert A' c' us] :=
  (toCertS_any A us.length c us w hr rfl hb).mono fun e w' ⟨A', c', he, h, hb'⟩ => ⟨A', c', he, Hp.ofOwn hb' h (Nat.le_refl _)⟩
theorem markCertS_hp (A : Option Addr) (n c m : Nat) (mi : Int) (hmi : mi = (m : Int)) (xs : List Value) (w w0 : World) (L L' : List Ent) (H : Hp w0 w L) (hr : Rep L (row 30 8 (.slice A n c) n xs) (row 30 8 (.slice A n c) n (marksCert m n)) L') (h0 : 0 < m) (hm : m + n * 8 ≤ 1125899906842624) :
    Calls Tryz.prog 57 #[.slice A n c, .int .i64 mi] w fun e w' => e = .returned (.int .i64 ((m + n * 8 : Nat) : Int)) ∧ Hp w0 w' L' :=
  by subst hmi; exact (markCertS_any A n c m _ _ xs w (H.ownM hr.mem).1 h0 hm).mono fun e w' ⟨he, h, hc⟩ => ⟨he, H.chgM hr h hc⟩
theorem heldCertS_hp (A : Option Addr) (n c m : Nat) (mi : Int) (hmi : mi = (m : Int)) (w : World) (hr : Rd w w.heap.size 8 A n c (marksCert m n)) (h0 : 0 < m) (hm : m + n * 8 ≤ 1125899906842624) :
    Calls Tryz.prog 60 #[.slice A n c, .int .i64 mi] w fun e w' => e = .returned (.int .i64 ((m + n * 8 : Nat) : Int)) ∧ Below w.heap.size w w' := by subst hmi; exact heldCertS_any A n c m w hr h0 hm
end Go.Proofs.YtaaloiloklnbiaaGreatDoor
namespace Go.Proofs.YtaaloiloklnbiaaGreatDoor
open Go.RowKit
set_option linter.unusedVariables false

abbrev rCertKey (A : Option Addr) (c : Nat) (us : List CertKey) : Ent := row 68 2 (.slice A us.length c) us.length (us.flatMap encCertKey)
theorem rCertKey_snoc (A : Option Addr) (c : Nat) (us : List CertKey) (u : CertKey) : row 68 2 (.slice A (us.length + 1) c) (us.length + 1) (us.flatMap encCertKey ++ encCertKey u) = rCertKey A c (us ++ [u]) := by simp [rCertKey]
theorem oneCertKey (u : CertKey) : ∀ x ∈ encCertKey u, x.oneCell' = true := by intro x hx; simp [encCertKey] at hx; rcases hx with rfl | rfl <;> rfl
theorem toCertKeyS_hp (A : Option Addr) (c : Nat) (us : List CertKey) (w : World) (hr : Rd w w.heap.size 2 A us.length c (us.flatMap encCertKey)) (hb : us.length ≤ 1048576) :
    Calls Tryz.prog 52 #[.slice A us.length c] w fun e w' => ∃ A' c', e = .returned (.slice A' us.length c') ∧ Hp w w' [rCertKey A' c' us] :=
  (toCertKeyS_any A us.length c us w hr rfl hb).mono fun e w' ⟨A', c', he, h, hb'⟩ => ⟨A', c', he, Hp.ofOwn hb' h (Nat.le_refl _)⟩
theorem markCertKeyS_hp (A : Option Addr) (n c m : Nat) (mi : Int) (hmi : mi = (m : Int)) (xs : List Value) (w w0 : World) (L L' : List Ent) (H : Hp w0 w L) (hr : Rep L (row 68 2 (.slice A n c) n xs) (row 68 2 (.slice A n c) n (marksCertKey m n)) L') (h0 : 0 < m) (hm : m + n * 2 ≤ 1125899906842624) :
    Calls Tryz.prog 58 #[.slice A n c, .int .i64 mi] w fun e w' => e = .returned (.int .i64 ((m + n * 2 : Nat) : Int)) ∧ Hp w0 w' L' :=
  by subst hmi; exact (markCertKeyS_any A n c m _ _ xs w (H.ownM hr.mem).1 h0 hm).mono fun e w' ⟨he, h, hc⟩ => ⟨he, H.chgM hr h hc⟩
theorem heldCertKeyS_hp (A : Option Addr) (n c m : Nat) (mi : Int) (hmi : mi = (m : Int)) (w : World) (hr : Rd w w.heap.size 2 A n c (marksCertKey m n)) (h0 : 0 < m) (hm : m + n * 2 ≤ 1125899906842624) :
    Calls Tryz.prog 61 #[.slice A n c, .int .i64 mi] w fun e w' => e = .returned (.int .i64 ((m + n * 2 : Nat) : Int)) ∧ Below w.heap.size w w' := by subst hmi; exact heldCertKeyS_any A n c m w hr h0 hm
end Go.Proofs.YtaaloiloklnbiaaGreatDoor
