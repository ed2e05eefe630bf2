/- Contracts of the small functions: ranges, keys, names. No condition. -/
import Derived.Test.YtlmmeeeoljlgcaaDoorProg
import Derived.Test.YtlmmeeeoljlgcaaDoorM1
import Derived.Test.YtlmmeeeoljlgcaaDoorShelf
import Derived.WalkKit
import Derived.WalkSpells
import Derived.WalkLawsBesides
import Derived.Lib.Hide
import Derived.Handy
set_option linter.unusedVariables false
set_option linter.unusedSimpArgs false
namespace Go.Proofs.YtlmmeeeoljlgcaaDoor
open Go.RowKit

set_option maxHeartbeats 400000 in
theorem l01In_any (x lo hi : Int) (w : World) :
    Calls Tryd.prog 77 #[.int .i64 x, .int .i64 lo, .int .i64 hi] w fun e w' => e = .returned (.bool (inR x lo hi)) ∧ w = w' := by
  by_cases h1 : lo ≤ x
  · by_cases h2 : x ≤ hi
    · go_enter Tryd.func77, Tryd.ntmps77
      go_wp2
      go_ret
      simp [inR, h1, h2]
    · go_enter Tryd.func77, Tryd.ntmps77
      go_wp2
      go_ret
      simp [inR, h1, h2]
  · go_enter Tryd.func77, Tryd.ntmps77
    go_wp2
    go_ret
    simp [inR]; omega
set_option maxHeartbeats 400000 in
theorem within_any (x lo hi : Int) (w : World) :
    Calls Tryd.prog 78 #[.int .i64 x, .int .i64 lo, .int .i64 hi] w fun e w' => e = .returned (.bool (inR x lo hi)) ∧ w = w' := by
  by_cases h1 : lo ≤ x
  · by_cases h2 : x ≤ hi
    · go_enter Tryd.func78, Tryd.ntmps78
      go_wp2
      go_ret
      simp [inR, h1, h2]
    · go_enter Tryd.func78, Tryd.ntmps78
      go_wp2
      go_ret
      simp [inR, h1, h2]
  · go_enter Tryd.func78, Tryd.ntmps78
    go_wp2
    go_ret
    simp [inR]; omega

theorem IndexByte_any (s : ByteArray) (b : UInt8) (w : World) :
    Calls Tryd.prog 91 #[.string s, .int .u8 b.toNat] w fun e w' => e = .returned (.int .i64 (Lib.indexByte s.data.toList b)) ∧ w = w' := by
  refine (Go.Proofs.Tryd.strings_IndexByte s b.toNat w).mono fun e w' ⟨h1, h2⟩ => ⟨?_, h2.symm⟩
  rw [h1]; simp
def inSet (al : List UInt8) (b : UInt8) : Bool := !decide (Lib.indexByte al b < 0)
theorem inSet_true {al : List UInt8} {b : UInt8} : inSet al b = true ↔ ¬ Lib.indexByte al b < 0 := by simp [inSet]
theorem inSet_false {al : List UInt8} {b : UInt8} : inSet al b = false ↔ Lib.indexByte al b < 0 := by simp [inSet]
set_option maxHeartbeats 1000000 in
theorem onlyOf_any (s al : ByteArray) (w : World) (hs : s.size ≤ maxLen) :
    Calls Tryd.prog 83 #[.string s, .string al] w fun e w' => e = .returned (.bool (allB (inSet al.data.toList) s)) ∧ w = w' := by
  unfold maxLen at hs
  go_enter Tryd.func83, Tryd.ntmps83
  go_wp2_with fail
  go_loop [8] (fun i => ∃ k : Nat, k ≤ s.size ∧ i = .int .i64 k ∧ Hid ((s.data.toList.take k).all (inSet al.data.toList) = true)) (fun i => s.size - (intOf i).toNat)
  case atStart => exact ⟨0, Nat.zero_le _, rfl, rfl⟩
  case round =>
    obtain ⟨k, hk, rfl, HA⟩ := hrel
    by_cases hlt : k < s.size
    · go_wp2_with (go_at_call 91; refine (IndexByte_any _ _ _).mono ?_; rintro e w' ⟨rfl, rfl⟩; generalize hv : Lib.indexByte al.data.toList s[k] = v; have HV := Lib.hid hv; clear hv)
      all_goals first
        | (go_round; (case rel => exact ⟨k + 1, by omega, by go_num, allB_snoc _ hlt HA.out (by rw [inSet_true, HV.out]; omega)⟩); (case measure => simp [intOf]; omega))
        | (go_ret; exact ⟨by rw [allB_at _ hlt (by rw [inSet_false, HV.out]; omega)]; simp, rfl⟩)
    · have HE : Hid (allB (inSet al.data.toList) s = true) := allB_end _ hk hlt HA.out
      go_wp2
      go_ret
      exact ⟨by rw [HE.out]; simp, rfl⟩
end Go.Proofs.YtlmmeeeoljlgcaaDoor
