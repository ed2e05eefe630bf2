/- Slices of bytes: the statements' own helpers over them (to, eq, sz), over footprints. No condition. -/
import Derived.Test.YtklmcbabpncfmaaDoorByte
import Derived.Test.YtklmcbabpncfmaaDoorHp
import Derived.Test.YtklmcbabpncfmaaDoorCore
import Derived.Deep.QuietTactic
import Derived.BigQuiet
import Derived.Deep.RegionWith
namespace Go.Proofs.YtklmcbabpncfmaaDoor
open Go.RowKit
set_option linter.unusedVariables false
set_option linter.unusedSimpArgs false
set_option maxHeartbeats 2000000 in
theorem eqByteS_any (A A' : Option Addr) (n c c' : Nat) (us : List UInt8) (w : World) (hr : Rd w w.heap.size 1 A n c (us.flatMap encByte)) (hr' : Rd w w.heap.size 1 A' n c' (us.flatMap encByte)) (hn : us.length = n) :
    Calls Tryd.prog 146 #[.slice A n c, .slice A' n c'] w fun e w' => e = .returned (.bool true) ∧ Below w.heap.size w w' := by
  have hc := hr.2.1
  have hm := hr.2.2.1
  have hc' := hr'.2.1
  unfold maxLen at hm
  go_enter Tryd.func146, Tryd.ntmps146
  go_wp2_with fail
  go_loopw [5] (fun i wr => ∃ k : Nat, k ≤ n ∧ i = .int .i64 k ∧ Below w.heap.size w wr) (fun i _ => n - (intOf i).toNat)
  case atStart => exact ⟨0, Nat.zero_le _, rfl, Below.refl _ _⟩
  case round =>
    obtain ⟨k, hk, rfl, HB⟩ := hrel
    by_cases hlt : k < n
    · obtain ⟨b, off, rfl, hb, hcell⟩ := hr.elem encByte_len hn hlt
      obtain ⟨b', off', rfl, hb', hcell'⟩ := hr'.elem encByte_len hn hlt
      have c0 := HB.cell (p := ⟨b, off + k * 1 + 0, none⟩) hb |>.trans (hcell 0 _ rfl)
      have e0 := HB.cell (p := ⟨b', off' + k * 1 + 0, none⟩) hb' |>.trans (hcell' 0 _ rfl)
      simp only [Nat.add_zero, Nat.mul_one] at c0 e0
      clear hcell hcell'
      generalize us[k] = u at *
      have hk1 : (k : Int) < (n : Int) := by omega
      have hk0 : (0 : Int) ≤ (k : Int) := by omega
      go_wp2_with fail
      try go_quiet (fail)
      all_goals
        go_wp2_with fail
        go_roundw
        case rel => exact ⟨k + 1, by omega, by go_num, by first | exact HB | exact below_drewN HB _⟩
        case measure => simp [intOf]; omega
    · go_wp2_with fail
      go_ret
      exact ⟨rfl, HB⟩
set_option maxHeartbeats 2000000 in
theorem toByteS_hp (A : Option Addr) (c : Nat) (us : List UInt8) (w : World) (hr : Rd w w.heap.size 1 A us.length c (us.flatMap encByte)) (hb20 : us.length ≤ 1048576) :
    Calls Tryd.prog 145 #[.slice A us.length c] w fun e w' => ∃ A' c', e = .returned (.slice A' us.length c') ∧ Hp w w' [rByte A' c' us] := by
  obtain ⟨n, hn⟩ : ∃ n, us.length = n := ⟨_, rfl⟩
  unfold rByte
  rw [hn] at hr hb20 ⊢
  obtain ⟨i0, hi, hz0, hz1, hz2⟩ := info_parts Tryd.infoByte
  have hc := hr.2.1
  have hm := hr.2.2.1
  unfold maxLen at hm
  go_enter Tryd.func145, Tryd.ntmps145
  go_wp2_with (at_make; refine wpList_make_full _ rfl _ _ 22 rfl w.heap.size 5 i0 _ 1 Tryd.underlying22 hi hz0 hz1 _ _ _ _ n rfl rfl rfl rfl ?_ ?_ ?_ ?_; rotate_right; intro w1 hown hgrow)
  case refine_1 => rw [hz2]; omega
  case refine_2 => unfold maxLen; omega
  case refine_3 => exact Nat.le_refl _
  have HB1 : Below w.heap.size w w1 := (Below.refl _ _).grown hgrow (Nat.le_refl _) (fun k hk => by cases hk)
  generalize (madeCells (Value.cells (.int .u8 0)) (n * 1)).toList = cs0 at *
  clear hgrow
  go_loopw [4] (fun i wr => ∃ k : Nat, k ≤ n ∧ i = .int .i64 k ∧ Below w.heap.size w wr ∧ ∃ cs, wr.ownsRow w.heap.size 5 1 (.slice (some ⟨w.heap.size, 0, none⟩) n n) n cs ∧ Hid (cs.take (k * 1) = (us.take k).flatMap encByte)) (fun i _ => n - (intOf i).toNat)
  case atStart => exact ⟨0, Nat.zero_le _, rfl, HB1, cs0, hown, by show _ = _; simp⟩
  case round =>
    clear HB1 hown
    obtain ⟨k, hk, rfl, HB, cs, hown, HC⟩ := hrel
    by_cases hlt : k < n
    · obtain ⟨b, off, rfl, hb, hcell⟩ := hr.elem encByte_len hn hlt
      have c0 := HB.cell (p := ⟨b, off + k * 1 + 0, none⟩) (by omega) |>.trans (hcell 0 _ rfl)
      simp only [Nat.add_zero, Nat.mul_one] at c0
      have hz := HB.size
      have HT : Hid ((cs.set k (.int .u8 us[k].toNat)).take ((k + 1) * 1) = (us.take (k + 1)).flatMap encByte) := by
        have h := take_flat encByte_len (show k < us.length by omega) HC.out (by rw [hown.1, hn])
        rw [Nat.mul_one k] at h
        exact h
      obtain ⟨v0, hv0, d0⟩ := own_cell hown (j := k) (by omega)
      have f0 := hown.frozenAt k
      have hk1 : (k : Int) < (n : Int) := by omega
      have hk0 : (0 : Int) ≤ (k : Int) := by omega
      clear hcell
      generalize us[k] = u at *
      go_wp2_with fail
      go_roundw
      case rel => exact ⟨k + 1, by omega, by go_num, (HB.setCell (by simp) _), _, (hown.stored k (.int .u8 u.toNat)).1, HT⟩
      case measure => simp [intOf]; omega
    · have HF : Hid (cs = us.flatMap encByte) := by
        have h2 := HC.out
        rw [show k = n by omega] at h2
        exact take_flat_end hn h2 hown.1
      go_wp2_with fail
      go_ret
      exact ⟨_, _, rfl, Hp.ofOwn HB (Own.of (by rw [← HF.out]; exact hown)) (Nat.le_refl _)⟩
set_option maxHeartbeats 1000000 in
theorem szByteS_any (A : Option Addr) (n c : Nat) (us : List UInt8) (left : Int) (w : World) (hr : Rd w w.heap.size 1 A n c (us.flatMap encByte)) (hn : us.length = n) (h0 : 0 ≤ left) (h1 : left ≤ 1048576) :
    Calls Tryd.prog 144 #[.slice A n c, .int .i64 left] w fun e w' => e = .returned (.int .i64 (leftOf left n)) ∧ Below w.heap.size w w' := by
  have hc := hr.2.1
  have hm := hr.2.2.1
  unfold maxLen at hm
  by_cases c1 : left - (n : Int) < 0
  · go_enter Tryd.func144, Tryd.ntmps144
    go_wp2_with fail
    go_ret
    exact ⟨by rw [leftOf, if_neg (by omega)]; rfl, Below.refl _ _⟩
  · go_enter Tryd.func144, Tryd.ntmps144
    go_wp2_with fail
    go_ret
    exact ⟨by rw [leftOf, if_pos (by omega)]; rfl, Below.refl _ _⟩
end Go.Proofs.YtklmcbabpncfmaaDoor
