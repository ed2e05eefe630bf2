/- Lists of numbers: whether one is there, copies (the reference's and package slices'). No condition. -/
import Derived.Test.YteimapjiidekoaaDoorEnInt
import Derived.Test.YteimapjiidekoaaDoorSlice
import Derived.Test.YteimapjiidekoaaDoorShelf
namespace Go.Proofs.YteimapjiidekoaaDoor
open Go.RowKit
set_option linter.unusedVariables false
set_option linter.unusedSimpArgs false
theorem Rd.intAt {w : World} {b off n c : Nat} {us : List Int} (hr : Rd w w.heap.size 1 (some ⟨b, off, none⟩) n c (us.flatMap encInt)) (hn : us.length = n) {k : Nat} (hk : k < us.length) (W : World) (hb : Below w.heap.size w W) : W.cell? ⟨b, off + k, none⟩ = some (.int .i64 us[k]) := by
  obtain ⟨b', off', hA', hb', hcell⟩ := hr.elem encInt_len hn (i := k) (by omega)
  obtain ⟨rfl, rfl⟩ : b = b' ∧ off = off' := by simpa using hA'
  exact (hb.cell (p := ⟨b, off + k, none⟩) hb').trans (by have := hcell 0 _ rfl; simpa using this)
theorem contains_at {us : List Int} {k : Nat} (hk : k < us.length) {x : Int} (h : us[k] = x) : hasI us x = true := by
  rw [hasI_iff, ← h]; exact List.getElem_mem hk
theorem contains_snoc {us : List Int} {k : Nat} (hk : k < us.length) {x : Int} (h : ¬ us[k] = x) (h1 : hasI (us.take k) x = false) : hasI (us.take (k + 1)) x = false := by
  rw [← Bool.not_eq_true, hasI_iff] at h1 ⊢
  rw [List.take_succ_eq_append_getElem hk, List.mem_append]
  rintro (h2 | h2)
  · exact h1 h2
  · have h3 : x = us[k] := by simpa using h2
    exact h h3.symm
set_option maxHeartbeats 2000000 in
theorem l01Has_any (A : Option Addr) (n c : Nat) (us : List Int) (x : Int) (w : World) (hr : Rd w w.heap.size 1 A n c (us.flatMap encInt)) (hn : us.length = n) :
    Calls Tryd.prog 79 #[.slice A n c, .int .i64 x] w fun e w' => e = .returned (.bool (hasI us x)) ∧ Below w.heap.size w w' := by
  have hc := hr.2.1
  have hm := hr.2.2.1
  unfold maxLen at hm
  go_enter Tryd.func79, Tryd.ntmps79
  go_wp2_with fail
  go_loop [5] (fun i => ∃ k : Nat, k ≤ n ∧ i = .int .i64 k ∧ Hid (hasI (us.take k) x = false)) (fun i => n - (intOf i).toNat)
  case atStart => exact ⟨0, Nat.zero_le _, rfl, rfl⟩
  case round =>
    obtain ⟨k, hk, rfl, HA⟩ := hrel
    by_cases hlt : k < n
    · obtain ⟨b, off, rfl, hb, -⟩ := hr.elem encInt_len hn hlt
      have c0 := Rd.intAt hr hn (k := k) (by omega) w (Below.refl _ _)
      have hk1 : (k : Int) < (n : Int) := by omega
      have hk0 : (0 : Int) ≤ (k : Int) := by omega
      by_cases h : (us[k]'(by omega)) = x
      · have HN : Hid (hasI us x = true) := contains_at (by omega) h
        generalize (us[k]'(by omega)) = y at *
        go_wp2_with fail
        go_ret
        exact ⟨by rw [HN.out]; rfl, Below.refl _ _⟩
      · have HN : Hid (hasI (us.take (k + 1)) x = false) := contains_snoc (by omega) h HA.out
        generalize (us[k]'(by omega)) = y at *
        go_wp2_with fail
        go_round
        case rel => exact ⟨k + 1, by omega, by go_num, HN⟩
        case measure => simp [intOf]; omega
    · have HN : Hid (hasI us x = false) := by have h := HA.out; rwa [List.take_of_length_le (by omega)] at h
      go_wp2_with fail
      go_ret
      exact ⟨by rw [HN.out]; rfl, Below.refl _ _⟩
end Go.Proofs.YteimapjiidekoaaDoor
