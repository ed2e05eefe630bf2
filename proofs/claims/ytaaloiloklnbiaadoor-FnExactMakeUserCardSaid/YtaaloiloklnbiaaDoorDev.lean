/- Devices and roles: contracts, and the walks of FnExactDeviceOk and FnExactRoleOk. No condition. -/
import Derived.Test.YtaaloiloklnbiaaDoorCore
namespace Go.Proofs.YtaaloiloklnbiaaDoor
open Go.RowKit

def devOk (k c f u : Int) : Bool := inR k 0 1099511627776 && (inR c 0 1000000000 && (inR f 0 1000 && inR u 0 2000000000))

def roleOk (nm pf : ByteArray) (ttl lim : Int) : Bool := isNm nm && (isNm pf && (decide ((pf.size : Int) ≤ 6) && (inR lim 1 1000000 && inR ttl 1 lim)))
set_option maxHeartbeats 1000000 in
theorem specRoleOk_any (nm pf : ByteArray) (ttl lim : Int) (w : World) (hs : nm.size ≤ maxLen) (ht : pf.size ≤ maxLen) :
    Calls Tryd.prog 7 #[.agg #[.string nm, .string pf, .int .i64 ttl, .int .i64 lim]] w fun e w' => e = .returned (.bool (roleOk nm pf ttl lim)) ∧ Below w.heap.size w w' := by
  go_enter Tryd.func7, Tryd.ntmps7
  go_wp2_with (first | (go_at_call 29; refine (l01In_any _ _ _ _).mono ?_; rintro e w' ⟨rfl, rfl⟩) | (go_at_call 28; refine (l01Name_any _ _ (by assumption)).mono ?_; rintro e w' ⟨rfl, rfl⟩))
  all_goals
    go_ret
    exact ⟨by first | (simp [roleOk, *]; done) | (have h6 : ¬ ((pf.size : Int) ≤ 6) := (by omega); simp [roleOk, h6]), (Below.refl _ _).alloc (Nat.le_refl _) _⟩
set_option maxHeartbeats 1000000 in
theorem isRole_any (nm pf : ByteArray) (ttl lim : Int) (w : World) (hs : nm.size ≤ maxLen) (ht : pf.size ≤ maxLen) :
    Calls Tryd.prog 37 #[.agg #[.string nm, .string pf, .int .i64 ttl, .int .i64 lim]] w fun e w' => e = .returned (.bool (roleOk nm pf ttl lim)) ∧ Below w.heap.size w w' := by
  go_enter Tryd.func37, Tryd.ntmps37
  go_wp2_with (first | (go_at_call 38; refine (within_any _ _ _ _).mono ?_; rintro e w' ⟨rfl, rfl⟩) | (go_at_call 35; refine (isName_any _ _ (by assumption)).mono ?_; rintro e w' ⟨rfl, rfl⟩))
  all_goals
    go_ret
    exact ⟨by first | (simp [roleOk, *]; done) | (have h6 : ¬ ((pf.size : Int) ≤ 6) := (by omega); simp [roleOk, h6]), (Below.refl _ _).alloc (Nat.le_refl _) _⟩
theorem toRole_any (nm pf : ByteArray) (ttl lim : Int) (w : World) :
    Calls Tryd.prog 18 #[.agg #[.string nm, .string pf, .int .i64 ttl, .int .i64 lim]] w fun e w' => e = .returned (.agg #[.string nm, .string pf, .int .i64 ttl, .int .i64 lim]) ∧ Below w.heap.size w w' := by
  go_enter Tryd.func18, Tryd.ntmps18
  go_wp2
  refine bodyPost_ret (v := .agg #[.string nm, .string pf, .int .i64 ttl, .int .i64 lim]) (by simp [results, Tryd.results18, go_sem]) rfl ⟨rfl, ?_⟩
  go_grown
/-- The budget's walk: what is known of its number. -/
theorem szRole_any (nm pf : ByteArray) (ttl lim left : Int) (w : World) (h0 : 0 ≤ left) (h1 : left ≤ 1048576) (hs1 : nm.size ≤ maxLen) (hs2 : pf.size ≤ maxLen) :
    Calls Tryd.prog 15 #[.agg #[.string nm, .string pf, .int .i64 ttl, .int .i64 lim], .int .i64 left] w fun e w' => e = .returned (.int .i64 (leftOf left (nm.size + pf.size))) ∧ Below w.heap.size w w' := by
  have HE : Hid (nm.size + pf.size = nm.size + pf.size) := rfl
  have H1 := Lib.hid hs1; have H2 := Lib.hid hs2
  unfold maxLen at hs1 hs2
  by_cases c1 : left - (nm.size : Int) < 0
  · have HL : Hid (leftOf left (nm.size + pf.size) = -1) := by show _ = _; rw [leftOf, if_neg (by omega)]
    go_enter Tryd.func15, Tryd.ntmps15
    go_wp2
    go_ret
    exact ⟨by rw [HL.out]; rfl, (Below.refl _ _).alloc (Nat.le_refl _) _⟩
  · by_cases c2 : left - (nm.size : Int) - (pf.size : Int) < 0
    · have HL : Hid (leftOf left (nm.size + pf.size) = -1) := by show _ = _; rw [leftOf, if_neg (by omega)]
      go_enter Tryd.func15, Tryd.ntmps15
      go_wp2
      go_ret
      exact ⟨by rw [HL.out]; rfl, (Below.refl _ _).alloc (Nat.le_refl _) _⟩
    · have HL : Hid (leftOf left (nm.size + pf.size) = left - (nm.size : Int) - (pf.size : Int)) := by show _ = _; rw [leftOf, if_pos (by omega)]; omega
      go_enter Tryd.func15, Tryd.ntmps15
      go_wp2
      go_ret
      exact ⟨by rw [HL.out]; rfl, (Below.refl _ _).alloc (Nat.le_refl _) _⟩
end Go.Proofs.YtaaloiloklnbiaaDoor
