/- Devices and roles: contracts, and the walks of FnExactDeviceOk and FnExactRoleOk. No condition. -/
import Derived.Test.YtinenkjfdmajkaaCore
namespace Go.Proofs.Ytinenkjfdmajkaa
open Go.RowKit

def devOk (k c f u : Int) : Bool := inR k 0 1099511627776 && (inR c 0 1000000000 && (inR f 0 1000 && inR u 0 2000000000))
set_option maxHeartbeats 400000 in
theorem specDeviceOk_any (k c f u : Int) (w : World) :
    Calls Try.prog 12 #[.agg #[.int .i64 k, .int .i64 c, .int .i64 f, .int .i64 u]] w fun e w' => e = .returned (.bool (devOk k c f u)) ∧ Below w.heap.size w w' := by
  go_enter Try.func12, Try.ntmps12
  go_wp2_with (first | (go_at_call 46; refine (l01In_any _ _ _ _).mono ?_; rintro e w' ⟨rfl, rfl⟩) | (go_at_call 45; refine (l04Key_any _ _).mono ?_; rintro e w' ⟨rfl, rfl⟩))
  all_goals
    go_ret
    exact ⟨by simp [devOk, *], (Below.refl _ _).alloc (Nat.le_refl _) _⟩
set_option maxHeartbeats 400000 in
theorem isDevice_any (k c f u : Int) (w : World) :
    Calls Try.prog 47 #[.agg #[.int .i64 k, .int .i64 c, .int .i64 f, .int .i64 u]] w fun e w' => e = .returned (.bool (devOk k c f u)) ∧ Below w.heap.size w w' := by
  go_enter Try.func47, Try.ntmps47
  go_wp2_with (first | (go_at_call 71; refine (within_any _ _ _ _).mono ?_; rintro e w' ⟨rfl, rfl⟩) | (go_at_call 81; refine (isKey_any _ _).mono ?_; rintro e w' ⟨rfl, rfl⟩))
  all_goals
    go_ret
    exact ⟨by simp [devOk, *], (Below.refl _ _).alloc (Nat.le_refl _) _⟩
theorem toDevice_any (k c f u : Int) (w : World) :
    Calls Try.prog 13 #[.agg #[.int .i64 k, .int .i64 c, .int .i64 f, .int .i64 u]] w fun e w' => e = .returned (.agg #[.int .i64 k, .int .i64 c, .int .i64 f, .int .i64 u]) ∧ Below w.heap.size w w' := by
  go_enter Try.func13, Try.ntmps13
  go_wp2
  refine bodyPost_ret (v := .agg #[.int .i64 k, .int .i64 c, .int .i64 f, .int .i64 u]) (by simp [results, Try.results13, go_sem]) rfl ⟨rfl, ?_⟩
  go_grown
theorem implDeviceOk_any (k c f u : Int) (w : World) :
    Calls Try.prog 14 #[.agg #[.int .i64 k, .int .i64 c, .int .i64 f, .int .i64 u]] w fun e w' => e = .returned (.bool (devOk k c f u)) ∧ Below w.heap.size w w' := by
  go_enter Try.func14, Try.ntmps14
  go_wp2_with (go_at_call 47; refine (isDevice_any _ _ _ _ _).mono ?_; rintro e w1 ⟨rfl, hb1⟩)
  go_ret
  exact ⟨rfl, ((Below.refl _ _).alloc (Nat.le_refl _) _).trans (hb1.mono (by simp))⟩
theorem lawDeviceOk (k c f u : Int) (w : World) :
    Calls Try.prog 3 #[.agg #[.int .i64 k, .int .i64 c, .int .i64 f, .int .i64 u]] w fun e w' => e = .returned (.bool true) ∧ Below w.heap.size w w' := by
  have hnn : (devOk k c f u != devOk k c f u) = false := by simp
  have hbx : ∀ W, Below (w.heap.size + 1) (w.alloc (.cells #[.int .i64 k, .int .i64 c, .int .i64 f, .int .i64 u] 23)) W → W.cell? ⟨w.heap.size, 0, none⟩ = some (.int .i64 k) ∧ W.cell? ⟨w.heap.size, 1, none⟩ = some (.int .i64 c) ∧ W.cell? ⟨w.heap.size, 2, none⟩ = some (.int .i64 f) ∧ W.cell? ⟨w.heap.size, 3, none⟩ = some (.int .i64 u) := fun W h =>
    ⟨(h.cell (p := ⟨_, 0, none⟩) (Nat.lt_succ_self _)).trans (by simp [go_sem]), (h.cell (p := ⟨_, 1, none⟩) (Nat.lt_succ_self _)).trans (by simp [go_sem]), (h.cell (p := ⟨_, 2, none⟩) (Nat.lt_succ_self _)).trans (by simp [go_sem]), (h.cell (p := ⟨_, 3, none⟩) (Nat.lt_succ_self _)).trans (by simp [go_sem])⟩
  go_enter Try.func3, Try.ntmps3
  go_wp2_with fail
  refine (toDevice_any _ _ _ _ _).mono ?_
  rintro e w1 ⟨rfl, hb1⟩
  simp only [World.size_alloc] at hb1
  go_wp2_with fail
  refine (specDeviceOk_any _ _ _ _ _).mono ?_
  rintro e w2 ⟨rfl, hb2⟩
  have hb2' := hb1.trans (hb2.mono (by have := hb1.size; simpa using this))
  obtain ⟨q0, q1, q2, q3⟩ := hbx w2 hb2'
  go_wp2_with fail
  refine (toDevice_any _ _ _ _ _).mono ?_
  rintro e w3 ⟨rfl, hb3⟩
  have hb3' := hb2'.trans (hb3.mono (by have := hb2'.size; simpa using this))
  go_wp2_with fail
  refine (implDeviceOk_any _ _ _ _ _).mono ?_
  rintro e w4 ⟨rfl, hb4⟩
  have hb4' := hb3'.trans (hb4.mono (by have := hb3'.size; simpa using this))
  clear q0 q1 q2 q3
  go_wp2_with fail
  go_ret
  exact ⟨rfl, ((Below.refl _ _).alloc (Nat.le_refl _) _).trans (hb4'.mono (by omega))⟩

def roleOk (nm pf : ByteArray) (ttl lim : Int) : Bool := isNm nm && (isNm pf && (decide ((pf.size : Int) ≤ 6) && (inR lim 1 1000000 && inR ttl 1 lim)))
set_option maxHeartbeats 1000000 in
theorem specRoleOk_any (nm pf : ByteArray) (ttl lim : Int) (w : World) (hs : nm.size ≤ maxLen) (ht : pf.size ≤ maxLen) :
    Calls Try.prog 16 #[.agg #[.string nm, .string pf, .int .i64 ttl, .int .i64 lim]] w fun e w' => e = .returned (.bool (roleOk nm pf ttl lim)) ∧ Below w.heap.size w w' := by
  go_enter Try.func16, Try.ntmps16
  go_wp2_with (first | (go_at_call 46; refine (l01In_any _ _ _ _).mono ?_; rintro e w' ⟨rfl, rfl⟩) | (go_at_call 48; refine (l01Name_any _ _ (by assumption)).mono ?_; rintro e w' ⟨rfl, rfl⟩))
  all_goals
    go_ret
    exact ⟨by first | (simp [roleOk, *]; done) | (have h6 : ¬ ((pf.size : Int) ≤ 6) := (by omega); simp [roleOk, h6]), (Below.refl _ _).alloc (Nat.le_refl _) _⟩
set_option maxHeartbeats 1000000 in
theorem isRole_any (nm pf : ByteArray) (ttl lim : Int) (w : World) (hs : nm.size ≤ maxLen) (ht : pf.size ≤ maxLen) :
    Calls Try.prog 49 #[.agg #[.string nm, .string pf, .int .i64 ttl, .int .i64 lim]] w fun e w' => e = .returned (.bool (roleOk nm pf ttl lim)) ∧ Below w.heap.size w w' := by
  go_enter Try.func49, Try.ntmps49
  go_wp2_with (first | (go_at_call 71; refine (within_any _ _ _ _).mono ?_; rintro e w' ⟨rfl, rfl⟩) | (go_at_call 82; refine (isName_any _ _ (by assumption)).mono ?_; rintro e w' ⟨rfl, rfl⟩))
  all_goals
    go_ret
    exact ⟨by first | (simp [roleOk, *]; done) | (have h6 : ¬ ((pf.size : Int) ≤ 6) := (by omega); simp [roleOk, h6]), (Below.refl _ _).alloc (Nat.le_refl _) _⟩
theorem toRole_any (nm pf : ByteArray) (ttl lim : Int) (w : World) :
    Calls Try.prog 17 #[.agg #[.string nm, .string pf, .int .i64 ttl, .int .i64 lim]] w fun e w' => e = .returned (.agg #[.string nm, .string pf, .int .i64 ttl, .int .i64 lim]) ∧ Below w.heap.size w w' := by
  go_enter Try.func17, Try.ntmps17
  go_wp2
  refine bodyPost_ret (v := .agg #[.string nm, .string pf, .int .i64 ttl, .int .i64 lim]) (by simp [results, Try.results17, go_sem]) rfl ⟨rfl, ?_⟩
  go_grown
/-- The budget's walk: what is known of its number. -/
theorem szRole_any (nm pf : ByteArray) (ttl lim left : Int) (w : World) (h0 : 0 ≤ left) (h1 : left ≤ 1048576) (hs1 : nm.size ≤ maxLen) (hs2 : pf.size ≤ maxLen) :
    Calls Try.prog 15 #[.agg #[.string nm, .string pf, .int .i64 ttl, .int .i64 lim], .int .i64 left] w fun e w' => e = .returned (.int .i64 (leftOf left (nm.size + pf.size))) ∧ Below w.heap.size w w' := by
  have HE : Hid (nm.size + pf.size = nm.size + pf.size) := rfl
  have H1 := Lib.hid hs1; have H2 := Lib.hid hs2
  unfold maxLen at hs1 hs2
  by_cases c1 : left - (nm.size : Int) < 0
  · have HL : Hid (leftOf left (nm.size + pf.size) = -1) := by show _ = _; rw [leftOf, if_neg (by omega)]
    go_enter Try.func15, Try.ntmps15
    go_wp2
    go_ret
    exact ⟨by rw [HL.out]; rfl, (Below.refl _ _).alloc (Nat.le_refl _) _⟩
  · by_cases c2 : left - (nm.size : Int) - (pf.size : Int) < 0
    · have HL : Hid (leftOf left (nm.size + pf.size) = -1) := by show _ = _; rw [leftOf, if_neg (by omega)]
      go_enter Try.func15, Try.ntmps15
      go_wp2
      go_ret
      exact ⟨by rw [HL.out]; rfl, (Below.refl _ _).alloc (Nat.le_refl _) _⟩
    · have HL : Hid (leftOf left (nm.size + pf.size) = left - (nm.size : Int) - (pf.size : Int)) := by show _ = _; rw [leftOf, if_pos (by omega)]; omega
      go_enter Try.func15, Try.ntmps15
      go_wp2
      go_ret
      exact ⟨by rw [HL.out]; rfl, (Below.refl _ _).alloc (Nat.le_refl _) _⟩
theorem implRoleOk_any (nm pf : ByteArray) (ttl lim : Int) (w : World) (hs : nm.size ≤ maxLen) (ht : pf.size ≤ maxLen) :
    Calls Try.prog 18 #[.agg #[.string nm, .string pf, .int .i64 ttl, .int .i64 lim]] w fun e w' => e = .returned (.bool (roleOk nm pf ttl lim)) ∧ Below w.heap.size w w' := by
  go_enter Try.func18, Try.ntmps18
  go_wp2_with (go_at_call 49; refine (isRole_any _ _ _ _ _ hs ht).mono ?_; rintro e w1 ⟨rfl, hb1⟩)
  go_ret
  exact ⟨rfl, ((Below.refl _ _).alloc (Nat.le_refl _) _).trans (hb1.mono (by simp))⟩
set_option maxHeartbeats 1000000 in
theorem lawRoleOk (nm pf : ByteArray) (ttl lim : Int) (w : World) (hs : nm.size ≤ maxLen) (ht : pf.size ≤ maxLen) :
    Calls Try.prog 4 #[.agg #[.string nm, .string pf, .int .i64 ttl, .int .i64 lim]] w fun e w' => e = .returned (.bool true) ∧ Below w.heap.size w w' := by
  have hnn : (roleOk nm pf ttl lim != roleOk nm pf ttl lim) = false := by simp
  have hbx : ∀ W, Below (w.heap.size + 1) (w.alloc (.cells #[.string nm, .string pf, .int .i64 ttl, .int .i64 lim] 29)) W → W.cell? ⟨w.heap.size, 0, none⟩ = some (.string nm) ∧ W.cell? ⟨w.heap.size, 1, none⟩ = some (.string pf) ∧ W.cell? ⟨w.heap.size, 2, none⟩ = some (.int .i64 ttl) ∧ W.cell? ⟨w.heap.size, 3, none⟩ = some (.int .i64 lim) := fun W h =>
    ⟨(h.cell (p := ⟨_, 0, none⟩) (Nat.lt_succ_self _)).trans (by simp [go_sem]), (h.cell (p := ⟨_, 1, none⟩) (Nat.lt_succ_self _)).trans (by simp [go_sem]), (h.cell (p := ⟨_, 2, none⟩) (Nat.lt_succ_self _)).trans (by simp [go_sem]), (h.cell (p := ⟨_, 3, none⟩) (Nat.lt_succ_self _)).trans (by simp [go_sem])⟩
  have hB0 : ∀ o, Below w.heap.size w (w.alloc o) := fun o => (Below.refl _ _).alloc (Nat.le_refl _) _
  go_enter Try.func4, Try.ntmps4
  go_wp2_with fail
  refine (szRole_any nm pf ttl lim 1048576 _ (by omega) (by omega) hs ht).mono ?_
  rintro e w0 ⟨rfl, hb0⟩
  simp only [World.size_alloc] at hb0
  by_cases hx : leftOf 1048576 (nm.size + pf.size) < 0
  · go_wp2_with fail
    go_ret
    exact ⟨rfl, (hB0 _).trans (hb0.mono (by omega))⟩
  obtain ⟨p0, p1, p2, p3⟩ := hbx w0 hb0
  go_wp2_with fail
  refine (toRole_any _ _ _ _ _).mono ?_
  rintro e w1 ⟨rfl, hb1⟩
  have hb1' := hb0.trans (hb1.mono (by have := hb0.size; simpa using this))
  go_wp2_with fail
  refine (specRoleOk_any _ _ _ _ _ hs ht).mono ?_
  rintro e w2 ⟨rfl, hb2⟩
  have hb2' := hb1'.trans (hb2.mono (by have := hb1'.size; simpa using this))
  clear p0 p1 p2 p3
  obtain ⟨q0, q1, q2, q3⟩ := hbx w2 hb2'
  go_wp2_with fail
  refine (toRole_any _ _ _ _ _).mono ?_
  rintro e w3 ⟨rfl, hb3⟩
  have hb3' := hb2'.trans (hb3.mono (by have := hb2'.size; simpa using this))
  go_wp2_with fail
  refine (implRoleOk_any _ _ _ _ _ hs ht).mono ?_
  rintro e w4 ⟨rfl, hb4⟩
  have hb4' := hb3'.trans (hb4.mono (by have := hb3'.size; simpa using this))
  clear q0 q1 q2 q3
  go_wp2_with fail
  go_ret
  exact ⟨rfl, (hB0 _).trans (hb4'.mono (by omega))⟩
end Go.Proofs.Ytinenkjfdmajkaa
