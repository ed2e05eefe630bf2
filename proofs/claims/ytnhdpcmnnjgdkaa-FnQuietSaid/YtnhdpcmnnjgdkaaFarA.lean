/- Contracts over users and external systems (reading alone). No condition. -/
import Derived.Test.YtnhdpcmnnjgdkaaElUser
import Derived.Test.YtnhdpcmnnjgdkaaStr
import Derived.Deep.QuietTactic
import Derived.BigQuiet
set_option linter.unusedVariables false
set_option linter.unusedSimpArgs false
namespace Go.Proofs.Ytnhdpcmnnjgdkaa
open Go.RowKit

/-- Names are names, strictly rising. -/
def farStep (us : List User) (i : Nat) : Bool := isNm ((us[i]?.map (·.name)).getD ByteArray.empty) && (decide (i = 0) || !gtS ((us[i - 1]?.map (·.name)).getD ByteArray.empty) ((us[i]?.map (·.name)).getD ByteArray.empty))
def farRise (us : List User) (n : Nat) : Bool := (List.range n).all (farStep us)
def farOk (us : List User) (fail made : Int) : Bool := decide (us.length ≤ 120) && (inR fail 0 1000 && (inR made 0 1000000000 && farRise us us.length))
theorem farRise_snoc {us : List User} {k : Nat} (h : farRise us k = true) (hs : farStep us k = true) : farRise us (k + 1) = true := by
  simp [farRise, List.range_succ, List.all_append] at h ⊢; exact ⟨h, hs⟩
theorem farRise_no {us : List User} {k n : Nat} (hk : k < n) (hs : farStep us k = false) : farRise us n = false := by
  rw [farRise, List.all_eq_false]; exact ⟨k, by simpa using hk, by simp [hs]⟩

set_option maxHeartbeats 2000000 in
theorem specFarOk_any (A : Option Addr) (n c : Nat) (us : List User) (fail made : Int) (w : World) (hr : Rd w w.heap.size 2 A n c (us.flatMap encUser)) (hn : us.length = n) (hsz : ∀ u ∈ us, u.name.size ≤ maxLen) :
    Calls Try.prog 14 #[.agg #[.slice A n c, .int .i64 fail, .int .i64 made]] w fun e w' => e = .returned (.bool (farOk us fail made)) ∧ Below w.heap.size w w' := by
  have hc := hr.2.1
  have hm := hr.2.2.1
  unfold maxLen at hm
  by_cases h0 : ¬ n ≤ 120
  · go_enter Try.func14, Try.ntmps14
    go_wp2_with (go_at_call 38; refine (l01In_any _ _ _ _).mono ?_; rintro e w' ⟨rfl, rfl⟩)
    go_ret
    exact ⟨by simp [farOk, hn, h0], (Below.refl _ _).alloc (Nat.le_refl _) _⟩
  replace h0 : n ≤ 120 := by omega
  cases h1 : inR fail 0 1000 with
  | false =>
    go_enter Try.func14, Try.ntmps14
    go_wp2_with (go_at_call 38; refine (l01In_any _ _ _ _).mono ?_; rintro e w' ⟨rfl, rfl⟩)
    go_ret
    exact ⟨by simp [farOk, h1], (Below.refl _ _).alloc (Nat.le_refl _) _⟩
  | true =>
  cases h2 : inR made 0 1000000000 with
  | false =>
    go_enter Try.func14, Try.ntmps14
    go_wp2_with (go_at_call 38; refine (l01In_any _ _ _ _).mono ?_; rintro e w' ⟨rfl, rfl⟩)
    go_ret
    exact ⟨by simp [farOk, h2], (Below.refl _ _).alloc (Nat.le_refl _) _⟩
  | true =>
  have HE : Hid (farOk us fail made = farRise us n) := by unfold farOk; rw [h1, h2, hn]; simp [h0, Hid]
  go_enter Try.func14, Try.ntmps14
  go_wp2_with (go_at_call 38; refine (l01In_any _ _ _ _).mono ?_; rintro e w' ⟨rfl, rfl⟩)
  clear h1 h2
  go_loopw [3] (fun i wr => ∃ k : Nat, k ≤ n ∧ i = .int .i64 k ∧ Hid (farRise us k = true) ∧ Below w.heap.size w wr ∧ wr.cell? ⟨w.heap.size, 0, none⟩ = some (.slice A n c)) (fun i _ => n - (intOf i).toNat)
  case atStart => exact ⟨0, Nat.zero_le _, rfl, rfl, (Below.refl _ _).alloc (Nat.le_refl _) _, by simp [go_sem]⟩
  case round =>
    obtain ⟨k, hk, rfl, HR, HB, hcA⟩ := hrel
    by_cases hlt : k < n
    · obtain ⟨b, off, rfl, hb, hcell⟩ := hr.elem encUser_len hn hlt
      have c0 := HB.cell (p := ⟨b, off + k * 2, none⟩) hb |>.trans (hcell 0 _ rfl)
      have hs := mem_size (f := User.name) hsz (i := k) (by omega)
      have hfs : farStep us k = (isNm us[k].name && (decide (k = 0) || !gtS ((us[k - 1]?.map (·.name)).getD ByteArray.empty) us[k].name)) := by
        unfold farStep; rw [List.getElem?_eq_getElem (by omega : k < us.length)]; rfl
      generalize us[k].name = s at c0 hs hfs
      have HFS := Lib.hid hfs; clear hfs
      cases h1 : isNm s with
      | false =>
        have HN : Hid (farRise us n = false) := farRise_no hlt (by rw [HFS.out, h1]; simp)
        go_wp2_with fail
        go_quiet ((go_at_call 26; exact quietL (l01Name_any _ _ hs)))
        go_wp2
        go_ret
        exact ⟨by rw [HE.out, HN.out]; simp, below_drewN HB _⟩
      | true =>
        by_cases hk0 : k = 0
        · have h2 : decide (0 < k) = false := by simp; omega
          have HN : Hid (farRise us (k + 1) = true) := farRise_snoc HR.out (by rw [HFS.out, h1]; simp [hk0])
          clear hk0
          go_wp2_with fail
          go_quiet ((go_at_call 26; exact quietL (l01Name_any _ _ hs)))
          go_wp2
          go_roundw
          case rel => exact ⟨k + 1, by omega, by go_num, HN, below_drewN HB _, by simpa using hcA⟩
          case measure => simp [intOf]; omega
        · have h2 : decide (0 < k) = true := by simp; omega
          have hp1 : (k : Int) - 1 < (n : Int) := by omega
          have hp0 : (0 : Int) ≤ (k : Int) - 1 := by omega
          obtain ⟨b', off', hA', hb', hcell'⟩ := hr.elem encUser_len hn (i := k - 1) (by omega)
          obtain ⟨rfl, rfl⟩ : b = b' ∧ off = off' := by simpa using hA'
          have c1 := HB.cell (p := ⟨b, off + (k - 1) * 2, none⟩) hb |>.trans (hcell' 0 _ rfl)
          have hpe : (us[k - 1]?.map (·.name)).getD ByteArray.empty = us[k - 1].name := by rw [List.getElem?_eq_getElem (by omega : k - 1 < us.length)]; rfl
          rw [hpe] at HFS
          clear hpe hA' hb' hcell'
          generalize us[k - 1].name = t at c1 HFS
          cases h3 : gtS t s with
          | false =>
            have HN : Hid (farRise us (k + 1) = true) := farRise_snoc HR.out (by rw [HFS.out, h1, h3]; simp)
            unfold gtS at h3
            clear hk0
            go_wp2_with fail
            go_quiet ((go_at_call 26; exact quietL (l01Name_any _ _ hs)))
            go_wp2
            go_roundw
            case rel => exact ⟨k + 1, by omega, by go_num, HN, below_drewN HB _, by simpa using hcA⟩
            case measure => simp [intOf]; omega
          | true =>
            have HN : Hid (farRise us n = false) := farRise_no hlt (by rw [HFS.out, h1, h3]; simp [hk0])
            unfold gtS at h3
            clear hk0
            go_wp2_with fail
            go_quiet ((go_at_call 26; exact quietL (l01Name_any _ _ hs)))
            go_wp2
            go_ret
            exact ⟨by rw [HE.out, HN.out]; simp, below_drewN HB _⟩
    · have HF : Hid (farRise us n = true) := by rw [show n = k by omega]; exact HR
      go_wp2
      go_ret
      exact ⟨by rw [HE.out, HF.out]; simp, HB⟩
theorem farOk_no {us : List User} {fail made : Int} (h : farRise us us.length = false) : farOk us fail made = false := by simp [farOk, h]

set_option maxHeartbeats 2000000 in
theorem isFar_any (A : Option Addr) (n c : Nat) (us : List User) (fail made : Int) (w : World) (hr : Rd w w.heap.size 2 A n c (us.flatMap encUser)) (hn : us.length = n) (hsz : ∀ u ∈ us, u.name.size ≤ maxLen) :
    Calls Try.prog 17 #[.agg #[.slice A n c, .int .i64 fail, .int .i64 made]] w fun e w' => e = .returned (.bool (farOk us fail made)) ∧ Below w.heap.size w w' := by
  have hc := hr.2.1
  have hm := hr.2.2.1
  unfold maxLen at hm
  go_enter Try.func17, Try.ntmps17
  go_wp2_with fail
  go_loopw [8] (fun i wr => ∃ k : Nat, k ≤ n ∧ i = .int .i64 k ∧ Hid (farRise us k = true) ∧ Below w.heap.size w wr ∧ w.heap.size < wr.heap.size ∧ wr.cell? ⟨w.heap.size, 0, none⟩ = some (.slice A n c) ∧ wr.cell? ⟨w.heap.size, 1, none⟩ = some (.int .i64 fail) ∧ wr.cell? ⟨w.heap.size, 2, none⟩ = some (.int .i64 made)) (fun i _ => n - (intOf i).toNat)
  case atStart => exact ⟨0, Nat.zero_le _, rfl, rfl, (Below.refl _ _).alloc (Nat.le_refl _) _, by simp, by simp [go_sem], by simp [go_sem], by simp [go_sem]⟩
  case round =>
    obtain ⟨k, hk, rfl, HR, HB, hz, hcA, hcF, hcM⟩ := hrel
    by_cases hlt : k < n
    · obtain ⟨b, off, rfl, hb, hcell⟩ := hr.elem encUser_len hn hlt
      have c0 := HB.cell (p := ⟨b, off + k * 2 + 0, none⟩) hb |>.trans (hcell 0 _ rfl)
      have c0' := HB.cell (p := ⟨b, off + k * 2 + 1, none⟩) hb |>.trans (hcell 1 _ rfl)
      simp only [Nat.add_zero] at c0
      have hs := mem_size (f := User.name) hsz (i := k) (by omega)
      have hfs : farStep us k = (isNm us[k].name && (decide (k = 0) || !gtS ((us[k - 1]?.map (·.name)).getD ByteArray.empty) us[k].name)) := by
        unfold farStep; rw [List.getElem?_eq_getElem (by omega : k < us.length)]; rfl
      generalize us[k].name = s at c0 hs hfs
      generalize us[k].pass = s' at c0'
      have HFS := Lib.hid hfs; clear hfs
      cases h1 : isNm s with
      | false =>
        have HN : Hid (farRise us n = false) := farRise_no hlt (by rw [HFS.out, h1]; simp)
        go_wp2_with fail
        go_quiet ((go_at_call 42; exact quietL (isName_any _ _ hs)))
        go_wp2
        go_ret
        exact ⟨by rw [farOk_no (by rw [hn]; exact HN.out)]; simp, below_drewN (HB.alloc HB.size _) _⟩
      | true =>
        by_cases hk0 : k = 0
        · have h2 : decide (0 < k) = false := by simp; omega
          have HN : Hid (farRise us (k + 1) = true) := farRise_snoc HR.out (by rw [HFS.out, h1]; simp [hk0])
          clear hk0
          go_wp2_with fail
          go_quiet ((go_at_call 42; exact quietL (isName_any _ _ hs)))
          go_wp2
          go_roundw
          case rel => exact ⟨k + 1, by omega, by go_num, HN, below_drewN (HB.alloc HB.size _) _, by simp; omega, by simpa [go_sem, hz] using hcA, by simpa [go_sem, hz] using hcF, by simpa [go_sem, hz] using hcM⟩
          case measure => simp [intOf]; omega
        · have h2 : decide (0 < k) = true := by simp; omega
          have hp1 : (k : Int) - 1 < (n : Int) := by omega
          have hp0 : (0 : Int) ≤ (k : Int) - 1 := by omega
          have hbz : b < wr.heap.size := by omega
          obtain ⟨b', off', hA', hb', hcell'⟩ := hr.elem encUser_len hn (i := k - 1) (by omega)
          obtain ⟨rfl, rfl⟩ : b = b' ∧ off = off' := by simpa using hA'
          have c1 := HB.cell (p := ⟨b, off + (k - 1) * 2, none⟩) hb |>.trans (hcell' 0 _ rfl)
          have hpe : (us[k - 1]?.map (·.name)).getD ByteArray.empty = us[k - 1].name := by rw [List.getElem?_eq_getElem (by omega : k - 1 < us.length)]; rfl
          rw [hpe] at HFS
          clear hpe hA' hb' hcell'
          generalize us[k - 1].name = t at c1 HFS
          cases h3 : gtS t s with
          | false =>
            have HN : Hid (farRise us (k + 1) = true) := farRise_snoc HR.out (by rw [HFS.out, h1, h3]; simp)
            unfold gtS at h3
            clear hk0
            go_wp2_with fail
            go_quiet ((go_at_call 42; exact quietL (isName_any _ _ hs)))
            go_wp2
            go_roundw
            case rel => exact ⟨k + 1, by omega, by go_num, HN, below_drewN (HB.alloc HB.size _) _, by simp; omega, by simpa [go_sem, hz] using hcA, by simpa [go_sem, hz] using hcF, by simpa [go_sem, hz] using hcM⟩
            case measure => simp [intOf]; omega
          | true =>
            have HN : Hid (farRise us n = false) := farRise_no hlt (by rw [HFS.out, h1, h3]; simp [hk0])
            unfold gtS at h3
            clear hk0
            go_wp2_with fail
            go_quiet ((go_at_call 42; exact quietL (isName_any _ _ hs)))
            go_wp2
            go_ret
            exact ⟨by rw [farOk_no (by rw [hn]; exact HN.out)]; simp, below_drewN (HB.alloc HB.size _) _⟩
    · have HF : Hid (farRise us us.length = true) := by rw [show us.length = k by omega]; exact HR
      have HE : Hid (farOk us fail made = (decide (n ≤ 120) && (inR fail 0 1000 && inR made 0 1000000000))) := by unfold farOk; rw [HF.out, hn]; simp [Hid]
      by_cases h0 : n ≤ 120
      · have h0' : decide ((n : Int) ≤ 120) = true := by simp; omega
        cases h1 : inR fail 0 1000 with
        | false =>
          go_wp2_with (go_at_call 21; refine (within_any _ _ _ _).mono ?_; rintro e w' ⟨rfl, rfl⟩)
          go_ret
          exact ⟨by rw [HE.out]; simp [h0, h1], HB⟩
        | true =>
          cases h2 : inR made 0 1000000000 with
          | false =>
            go_wp2_with (go_at_call 21; refine (within_any _ _ _ _).mono ?_; rintro e w' ⟨rfl, rfl⟩)
            go_ret
            exact ⟨by rw [HE.out]; simp [h0, h1, h2], HB⟩
          | true =>
            go_wp2_with (go_at_call 21; refine (within_any _ _ _ _).mono ?_; rintro e w' ⟨rfl, rfl⟩)
            go_ret
            exact ⟨by rw [HE.out]; simp [h0, h1, h2], HB⟩
      · have h0' : decide ((n : Int) ≤ 120) = false := by simp; omega
        go_wp2
        go_ret
        exact ⟨by rw [HE.out]; simp [h0], HB⟩

end Go.Proofs.Ytnhdpcmnnjgdkaa
