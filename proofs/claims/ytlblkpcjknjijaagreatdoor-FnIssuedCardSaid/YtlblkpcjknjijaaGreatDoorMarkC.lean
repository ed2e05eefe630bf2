/- The mark of a valid certificate in the program. No condition. -/
import Derived.Test.YtlblkpcjknjijaaGreatDoorCertN
set_option linter.unusedVariables false
set_option linter.unusedSimpArgs false
namespace Go.Proofs.YtlblkpcjknjijaaGreatDoor
open Go.RowKit
set_option linter.unusedVariables false
set_option linter.unusedSimpArgs false
theorem markOf_c (c : Cert) (key : Int) (w : World) (hc : certOk c = true) (hk : inR key 0 1099511627776 = true) :
    Calls Tryz.prog 34 #[valCert c, .int .i64 key] w fun e w' => e = .returned (.int .i64 (markF c key)) ∧ Below w.heap.size w w' := by
  have HR : markF c key = dig (markL c key) := by rw [markF, if_pos ⟨hc, hk⟩]
  obtain ⟨⟨b1, b2⟩, b3, ⟨b4, b5⟩, ⟨b6, b7⟩, ⟨b8, b9⟩, ⟨b10, b11⟩⟩ := certOk_iff hc
  obtain ⟨k0, k1⟩ := inR_true.1 hk
  rw [HR]
  clear HR hc hk
  obtain ⟨ser, owner, iss, from_, to_, ca, depth, mark⟩ := c
  dsimp only at *
  obtain ⟨kn, rfl⟩ := Int.eq_ofNat_of_zero_le k0
  obtain ⟨sn, rfl⟩ := Int.eq_ofNat_of_zero_le (show 0 ≤ ser by omega)
  obtain ⟨isn, rfl⟩ := Int.eq_ofNat_of_zero_le b4
  obtain ⟨fn, rfl⟩ := Int.eq_ofNat_of_zero_le b6
  obtain ⟨tn, rfl⟩ := Int.eq_ofNat_of_zero_le b8
  obtain ⟨dn, rfl⟩ := Int.eq_ofNat_of_zero_le b10
  exact markOf_any kn sn isn fn tn dn owner ca mark w (by omega) (by omega) (by omega) (by omega) (by omega) (by omega) b3
end Go.Proofs.YtlblkpcjknjijaaGreatDoor
