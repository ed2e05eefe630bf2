/- Devices and roles: contracts, and the walks of FnExactDeviceOk and FnExactRoleOk. No condition. -/
import Derived.Test.YtonbebacioocnaaDoorCore
namespace Go.Proofs.YtonbebacioocnaaDoor
open Go.RowKit

def devOk (k c f u : Int) : Bool := inR k 0 1099511627776 && (inR c 0 1000000000 && (inR f 0 1000 && inR u 0 2000000000))
set_option maxHeartbeats 400000 in
theorem specDeviceOk_any (k c f u : Int) (w : World) :
    Calls Tryd.prog 31 #[.agg #[.int .i64 k, .int .i64 c, .int .i64 f, .int .i64 u]] w fun e w' => e = .returned (.bool (devOk k c f u)) ∧ Below w.heap.size w w' := by
  go_enter Tryd.func31, Tryd.ntmps31
  go_wp2_with (first | (go_at_call 64; refine (l01In_any _ _ _ _).mono ?_; rintro e w' ⟨rfl, rfl⟩) | (go_at_call 67; refine (l04Key_any _ _).mono ?_; rintro e w' ⟨rfl, rfl⟩))
  all_goals
    go_ret
    exact ⟨by simp [devOk, *], (Below.refl _ _).alloc (Nat.le_refl _) _⟩
set_option maxHeartbeats 400000 in
theorem isDevice_any (k c f u : Int) (w : World) :
    Calls Tryd.prog 74 #[.agg #[.int .i64 k, .int .i64 c, .int .i64 f, .int .i64 u]] w fun e w' => e = .returned (.bool (devOk k c f u)) ∧ Below w.heap.size w w' := by
  go_enter Tryd.func74, Tryd.ntmps74
  go_wp2_with (first | (go_at_call 69; refine (within_any _ _ _ _).mono ?_; rintro e w' ⟨rfl, rfl⟩) | (go_at_call 68; refine (isKey_any _ _).mono ?_; rintro e w' ⟨rfl, rfl⟩))
  all_goals
    go_ret
    exact ⟨by simp [devOk, *], (Below.refl _ _).alloc (Nat.le_refl _) _⟩
theorem toDevice_any (k c f u : Int) (w : World) :
    Calls Tryd.prog 24 #[.agg #[.int .i64 k, .int .i64 c, .int .i64 f, .int .i64 u]] w fun e w' => e = .returned (.agg #[.int .i64 k, .int .i64 c, .int .i64 f, .int .i64 u]) ∧ Below w.heap.size w w' := by
  go_enter Tryd.func24, Tryd.ntmps24
  go_wp2
  refine bodyPost_ret (v := .agg #[.int .i64 k, .int .i64 c, .int .i64 f, .int .i64 u]) (by simp [results, Tryd.results24, go_sem]) rfl ⟨rfl, ?_⟩
  go_grown
theorem eqDevice_any (k c f u : Int) (w : World) :
    Calls Tryd.prog 26 #[.agg #[.int .i64 k, .int .i64 c, .int .i64 f, .int .i64 u], .agg #[.int .i64 k, .int .i64 c, .int .i64 f, .int .i64 u]] w fun e w' => e = .returned (.bool true) ∧ Below w.heap.size w w' := by
  go_enter Tryd.func26, Tryd.ntmps26
  go_wp2
  go_ret
  refine ⟨rfl, ?_⟩
  go_grown

def roleOk (nm pf : ByteArray) (ttl lim : Int) : Bool := isNm nm && (isNm pf && (decide ((pf.size : Int) ≤ 6) && (inR lim 1 1000000 && inR ttl 1 lim)))
set_option maxHeartbeats 1000000 in
theorem specRoleOk_any (nm pf : ByteArray) (ttl lim : Int) (w : World) (hs : nm.size ≤ maxLen) (ht : pf.size ≤ maxLen) :
    Calls Tryd.prog 49 #[.agg #[.string nm, .string pf, .int .i64 ttl, .int .i64 lim]] w fun e w' => e = .returned (.bool (roleOk nm pf ttl lim)) ∧ Below w.heap.size w w' := by
  go_enter Tryd.func49, Tryd.ntmps49
  go_wp2_with (first | (go_at_call 64; refine (l01In_any _ _ _ _).mono ?_; rintro e w' ⟨rfl, rfl⟩) | (go_at_call 92; refine (l01Name_any _ _ (by assumption)).mono ?_; rintro e w' ⟨rfl, rfl⟩))
  all_goals
    go_ret
    exact ⟨by first | (simp [roleOk, *]; done) | (have h6 : ¬ ((pf.size : Int) ≤ 6) := (by omega); simp [roleOk, h6]), (Below.refl _ _).alloc (Nat.le_refl _) _⟩
set_option maxHeartbeats 1000000 in
theorem isRole_any (nm pf : ByteArray) (ttl lim : Int) (w : World) (hs : nm.size ≤ maxLen) (ht : pf.size ≤ maxLen) :
    Calls Tryd.prog 99 #[.agg #[.string nm, .string pf, .int .i64 ttl, .int .i64 lim]] w fun e w' => e = .returned (.bool (roleOk nm pf ttl lim)) ∧ Below w.heap.size w w' := by
  go_enter Tryd.func99, Tryd.ntmps99
  go_wp2_with (first | (go_at_call 69; refine (within_any _ _ _ _).mono ?_; rintro e w' ⟨rfl, rfl⟩) | (go_at_call 97; refine (isName_any _ _ (by assumption)).mono ?_; rintro e w' ⟨rfl, rfl⟩))
  all_goals
    go_ret
    exact ⟨by first | (simp [roleOk, *]; done) | (have h6 : ¬ ((pf.size : Int) ≤ 6) := (by omega); simp [roleOk, h6]), (Below.refl _ _).alloc (Nat.le_refl _) _⟩
theorem toRole_any (nm pf : ByteArray) (ttl lim : Int) (w : World) :
    Calls Tryd.prog 59 #[.agg #[.string nm, .string pf, .int .i64 ttl, .int .i64 lim]] w fun e w' => e = .returned (.agg #[.string nm, .string pf, .int .i64 ttl, .int .i64 lim]) ∧ Below w.heap.size w w' := by
  go_enter Tryd.func59, Tryd.ntmps59
  go_wp2
  refine bodyPost_ret (v := .agg #[.string nm, .string pf, .int .i64 ttl, .int .i64 lim]) (by simp [results, Tryd.results59, go_sem]) rfl ⟨rfl, ?_⟩
  go_grown
/-- The budget's walk: what is known of its number. -/
theorem szRole_any (nm pf : ByteArray) (ttl lim left : Int) (w : World) (h0 : 0 ≤ left) (h1 : left ≤ 1048576) (hs1 : nm.size ≤ maxLen) (hs2 : pf.size ≤ maxLen) :
    Calls Tryd.prog 56 #[.agg #[.string nm, .string pf, .int .i64 ttl, .int .i64 lim], .int .i64 left] w fun e w' => e = .returned (.int .i64 (leftOf left (nm.size + pf.size))) ∧ Below w.heap.size w w' := by
  have HE : Hid (nm.size + pf.size = nm.size + pf.size) := rfl
  have H1 := Lib.hid hs1; have H2 := Lib.hid hs2
  unfold maxLen at hs1 hs2
  by_cases c1 : left - (nm.size : Int) < 0
  · have HL : Hid (leftOf left (nm.size + pf.size) = -1) := by show _ = _; rw [leftOf, if_neg (by omega)]
    go_enter Tryd.func56, Tryd.ntmps56
    go_wp2
    go_ret
    exact ⟨by rw [HL.out]; rfl, (Below.refl _ _).alloc (Nat.le_refl _) _⟩
  · by_cases c2 : left - (nm.size : Int) - (pf.size : Int) < 0
    · have HL : Hid (leftOf left (nm.size + pf.size) = -1) := by show _ = _; rw [leftOf, if_neg (by omega)]
      go_enter Tryd.func56, Tryd.ntmps56
      go_wp2
      go_ret
      exact ⟨by rw [HL.out]; rfl, (Below.refl _ _).alloc (Nat.le_refl _) _⟩
    · have HL : Hid (leftOf left (nm.size + pf.size) = left - (nm.size : Int) - (pf.size : Int)) := by show _ = _; rw [leftOf, if_pos (by omega)]; omega
      go_enter Tryd.func56, Tryd.ntmps56
      go_wp2
      go_ret
      exact ⟨by rw [HL.out]; rfl, (Below.refl _ _).alloc (Nat.le_refl _) _⟩
end Go.Proofs.YtonbebacioocnaaDoor
