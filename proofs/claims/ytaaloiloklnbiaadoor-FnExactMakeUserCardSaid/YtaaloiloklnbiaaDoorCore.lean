/- Contracts of the small functions: ranges, keys, names. No condition. -/
import Derived.Test.YtaaloiloklnbiaaDoorProg
import Derived.Test.YtaaloiloklnbiaaDoorPure
import Derived.Test.YtaaloiloklnbiaaDoorShelf
import Derived.WalkKit
import Derived.WalkSpells
import Derived.WalkLawsBesides
import Derived.Lib.Hide
import Derived.Handy
namespace Go.Proofs.YtaaloiloklnbiaaDoor
open Go.RowKit

set_option maxHeartbeats 400000 in
theorem l01In_any (x lo hi : Int) (w : World) :
    Calls Tryd.prog 29 #[.int .i64 x, .int .i64 lo, .int .i64 hi] w fun e w' => e = .returned (.bool (inR x lo hi)) ∧ w = w' := by
  by_cases h1 : lo ≤ x
  · by_cases h2 : x ≤ hi
    · go_enter Tryd.func29, Tryd.ntmps29
      go_wp2
      go_ret
      simp [inR, h1, h2]
    · go_enter Tryd.func29, Tryd.ntmps29
      go_wp2
      go_ret
      simp [inR, h1, h2]
  · go_enter Tryd.func29, Tryd.ntmps29
    go_wp2
    go_ret
    simp [inR]; omega
set_option maxHeartbeats 400000 in
theorem within_any (x lo hi : Int) (w : World) :
    Calls Tryd.prog 38 #[.int .i64 x, .int .i64 lo, .int .i64 hi] w fun e w' => e = .returned (.bool (inR x lo hi)) ∧ w = w' := by
  by_cases h1 : lo ≤ x
  · by_cases h2 : x ≤ hi
    · go_enter Tryd.func38, Tryd.ntmps38
      go_wp2
      go_ret
      simp [inR, h1, h2]
    · go_enter Tryd.func38, Tryd.ntmps38
      go_wp2
      go_ret
      simp [inR, h1, h2]
  · go_enter Tryd.func38, Tryd.ntmps38
    go_wp2
    go_ret
    simp [inR]; omega
set_option maxHeartbeats 400000 in
theorem l04Key_any (x : Int) (w : World) :
    Calls Tryd.prog 44 #[.int .i64 x] w fun e w' => e = .returned (.bool (inR x 0 1099511627776)) ∧ w = w' := by
  go_enter Tryd.func44, Tryd.ntmps44
  go_wp2_with (go_at_call 29; refine (l01In_any _ _ _ _).mono ?_; rintro e w' ⟨rfl, rfl⟩)
  go_ret
  exact ⟨rfl, rfl⟩
set_option maxHeartbeats 400000 in
theorem isKey_any (x : Int) (w : World) :
    Calls Tryd.prog 34 #[.int .i64 x] w fun e w' => e = .returned (.bool (inR x 0 1099511627776)) ∧ w = w' := by
  go_enter Tryd.func34, Tryd.ntmps34
  go_wp2_with (go_at_call 38; refine (within_any _ _ _ _).mono ?_; rintro e w' ⟨rfl, rfl⟩)
  go_ret
  exact ⟨rfl, rfl⟩

set_option maxHeartbeats 1000000 in
theorem l01Name_any (s : ByteArray) (w : World) (hs : s.size ≤ maxLen) :
    Calls Tryd.prog 28 #[.string s] w fun e w' => e = .returned (.bool (isNm s)) ∧ w = w' := by
  unfold maxLen at hs
  go_enter Tryd.func28, Tryd.ntmps28
  go_wp2_with fail
  go_loop [3] (fun i => ∃ k : Nat, k ≤ s.size ∧ i = .int .i64 k ∧ Hid ((s.data.toList.take k).all nameCh = true)) (fun i => s.size - (intOf i).toNat)
  case atStart => exact ⟨0, Nat.zero_le _, rfl, rfl⟩
  case round =>
    obtain ⟨k, hk, rfl, HA⟩ := hrel
    by_cases hlt : k < s.size
    · have hT : ∀ c : UInt8, nameCh c = true ↔ ((97 : Int) ≤ (c.toNat : Int) ∧ (c.toNat : Int) ≤ 122) ∨ ((48 : Int) ≤ (c.toNat : Int) ∧ (c.toNat : Int) ≤ 57) := by intro c; simp [nameCh]; omega
      have HT := Lib.hid hT; clear hT
      by_cases h1 : (97 : Int) ≤ (s[k].toNat : Int) <;> by_cases h2 : (s[k].toNat : Int) ≤ 122 <;> by_cases h3 : (48 : Int) ≤ (s[k].toNat : Int) <;> by_cases h4 : (s[k].toNat : Int) ≤ 57 <;> (try (exfalso; omega)) <;> go_wp2
      all_goals first
        | (go_round; (case rel => exact ⟨k + 1, by omega, by go_num, allB_snoc nameCh hlt HA.out ((HT.out _).2 (by omega))⟩); (case measure => simp [intOf]; omega))
        | (go_ret; exact ⟨by rw [isNm, allB_at nameCh hlt (by rw [← Bool.not_eq_true, HT.out]; omega)]; simp, rfl⟩)
    · have HE : Hid (allB nameCh s = true) := allB_end nameCh hk hlt HA.out
      go_wp2_with (go_at_call 29; refine (l01In_any _ _ _ _).mono ?_; rintro e w' ⟨rfl, rfl⟩)
      go_ret
      exact ⟨by rw [isNm, HE.out]; simp, rfl⟩
theorem IndexByte_any (s : ByteArray) (b : UInt8) (w : World) :
    Calls Tryd.prog 80 #[.string s, .int .u8 b.toNat] w fun e w' => e = .returned (.int .i64 (Lib.indexByte s.data.toList b)) ∧ w = w' := by
  refine (Go.Proofs.Tryd.strings_IndexByte s b.toNat w).mono fun e w' ⟨h1, h2⟩ => ⟨?_, h2.symm⟩
  rw [h1]; simp
def inSet (al : List UInt8) (b : UInt8) : Bool := !decide (Lib.indexByte al b < 0)
theorem inSet_true {al : List UInt8} {b : UInt8} : inSet al b = true ↔ ¬ Lib.indexByte al b < 0 := by simp [inSet]
theorem inSet_false {al : List UInt8} {b : UInt8} : inSet al b = false ↔ Lib.indexByte al b < 0 := by simp [inSet]
set_option maxHeartbeats 1000000 in
theorem onlyOf_any (s al : ByteArray) (w : World) (hs : s.size ≤ maxLen) :
    Calls Tryd.prog 62 #[.string s, .string al] w fun e w' => e = .returned (.bool (allB (inSet al.data.toList) s)) ∧ w = w' := by
  unfold maxLen at hs
  go_enter Tryd.func62, Tryd.ntmps62
  go_wp2_with fail
  go_loop [8] (fun i => ∃ k : Nat, k ≤ s.size ∧ i = .int .i64 k ∧ Hid ((s.data.toList.take k).all (inSet al.data.toList) = true)) (fun i => s.size - (intOf i).toNat)
  case atStart => exact ⟨0, Nat.zero_le _, rfl, rfl⟩
  case round =>
    obtain ⟨k, hk, rfl, HA⟩ := hrel
    by_cases hlt : k < s.size
    · go_wp2_with (go_at_call 80; refine (IndexByte_any _ _ _).mono ?_; rintro e w' ⟨rfl, rfl⟩; generalize hv : Lib.indexByte al.data.toList s[k] = v; have HV := Lib.hid hv; clear hv)
      all_goals first
        | (go_round; (case rel => exact ⟨k + 1, by omega, by go_num, allB_snoc _ hlt HA.out (by rw [inSet_true, HV.out]; omega)⟩); (case measure => simp [intOf]; omega))
        | (go_ret; exact ⟨by rw [allB_at _ hlt (by rw [inSet_false, HV.out]; omega)]; simp, rfl⟩)
    · have HE : Hid (allB (inSet al.data.toList) s = true) := allB_end _ hk hlt HA.out
      go_wp2
      go_ret
      exact ⟨by rw [HE.out]; simp, rfl⟩
def nameBytes : List UInt8 := [97, 98, 99, 100, 101, 102, 103, 104, 105, 106, 107, 108, 109, 110, 111, 112, 113, 114, 115, 116, 117, 118, 119, 120, 121, 122, 48, 49, 50, 51, 52, 53, 54, 55, 56, 57]
theorem inSet_name : ∀ b : UInt8, inSet nameBytes b = nameCh b := by
  have h : ∀ n : Fin 256, inSet nameBytes (UInt8.ofNat n.val) = nameCh (UInt8.ofNat n.val) := by decide +kernel
  intro b
  have := h ⟨b.toNat, b.toNat_lt⟩
  simpa using this
set_option maxHeartbeats 1000000 in
theorem isName_any (s : ByteArray) (w : World) (hs : s.size ≤ maxLen) :
    Calls Tryd.prog 35 #[.string s] w fun e w' => e = .returned (.bool (isNm s)) ∧ w = w' := by
  have H := hs
  unfold maxLen at hs
  go_enter Tryd.func35, Tryd.ntmps35
  go_wp2_with (first | (go_at_call 38; refine (within_any _ _ _ _).mono ?_; rintro e w' ⟨rfl, rfl⟩) | (go_at_call 62; refine (onlyOf_any _ _ _ H).mono ?_; rintro e w' ⟨rfl, rfl⟩))
  · go_ret
    have h : inR (s.size : Int) 1 12 = true := by assumption
    exact ⟨by show Ending.returned (.bool (allB (inSet nameBytes) s)) = _; rw [allB_congr inSet_name, isNm, h]; simp, rfl⟩
  · go_ret
    have h : ¬ inR (s.size : Int) 1 12 = true := by assumption
    exact ⟨by rw [isNm, Bool.eq_false_iff.2 h]; simp, rfl⟩
end Go.Proofs.YtaaloiloklnbiaaDoor
