/- Contracts of the statements' own helpers over users and external systems. No condition. -/
import Derived.Test.YtinenkjfdmajkaaFarA
import Derived.Deep.RegionHeld3
namespace Go.Proofs.Ytinenkjfdmajkaa
open Go.RowKit

def szU (u : User) : Nat := u.name.size + u.pass.size
/-- What is left of a budget; -1 where it is spent. -/
def leftOf (left : Int) (n : Nat) : Int := if (n : Int) ≤ left then left - n else -1
def sumU (us : List User) : Nat := (us.map szU).sum

set_option maxHeartbeats 1000000 in
theorem szUser_any (u : User) (left : Int) (w : World) (h0 : 0 ≤ left) (h1 : left ≤ 1048576) (hs1 : u.name.size ≤ maxLen) (hs2 : u.pass.size ≤ maxLen) :
    Calls Try.prog 83 #[.agg #[.string u.name, .string u.pass], .int .i64 left] w fun e w' => e = .returned (.int .i64 (leftOf left (szU u))) ∧ Below w.heap.size w w' := by
  have HE : Hid (szU u = u.name.size + u.pass.size) := rfl
  unfold maxLen at hs1 hs2
  generalize u.name = s at *
  generalize u.pass = t at *
  by_cases c1 : left - (s.size : Int) < 0
  · go_enter Try.func83, Try.ntmps83
    go_wp2
    go_ret
    exact ⟨by rw [leftOf, HE.out, if_neg (by omega)]; rfl, (Below.refl _ _).alloc (Nat.le_refl _) _⟩
  · by_cases c2 : left - (s.size : Int) - (t.size : Int) < 0
    · go_enter Try.func83, Try.ntmps83
      go_wp2
      go_ret
      exact ⟨by rw [leftOf, HE.out, if_neg (by omega)]; rfl, (Below.refl _ _).alloc (Nat.le_refl _) _⟩
    · go_enter Try.func83, Try.ntmps83
      go_wp2
      go_ret
      exact ⟨by rw [leftOf, HE.out, if_pos (by omega)]; simp; omega, (Below.refl _ _).alloc (Nat.le_refl _) _⟩

theorem toUser_any (u : User) (w : World) :
    Calls Try.prog 84 #[.agg #[.string u.name, .string u.pass]] w fun e w' => e = .returned (.agg #[.string u.name, .string u.pass]) ∧ Below w.heap.size w w' := by
  go_enter Try.func84, Try.ntmps84
  go_wp2
  refine bodyPost_ret (v := .agg #[.string u.name, .string u.pass]) (by simp [results, Try.results84, go_sem]) rfl ⟨rfl, ?_⟩
  go_grown

theorem eqUser_any (u : User) (w : World) :
    Calls Try.prog 85 #[.agg #[.string u.name, .string u.pass], .agg #[.string u.name, .string u.pass]] w fun e w' => e = .returned (.bool true) ∧ Below w.heap.size w w' := by
  go_enter Try.func85, Try.ntmps85
  go_wp2
  go_ret
  refine ⟨rfl, ?_⟩
  go_grown

theorem leftOf_neg {left : Int} {n : Nat} (h : leftOf left n < 0) : left < n := by unfold leftOf at h; split at h <;> omega
theorem leftOf_nn {left : Int} {n : Nat} (h : 0 ≤ leftOf left n) : (n : Int) ≤ left ∧ leftOf left n = left - n := by
  by_cases hc : (n : Int) ≤ left
  · rw [leftOf, if_pos hc] at h ⊢; exact ⟨hc, rfl⟩
  · rw [leftOf, if_neg hc] at h; omega
theorem sumU_take {us : List User} {k : Nat} (h : k < us.length) : sumU (us.take (k + 1)) = sumU (us.take k) + szU us[k] := by
  rw [sumU, sumU, List.take_succ_eq_append_getElem h, List.map_append, List.sum_append, List.map_cons, List.map_nil, List.sum_cons, List.sum_nil, Nat.add_zero]
theorem sumU_le (us : List User) (k : Nat) : sumU (us.take k) ≤ sumU us := by
  have h : sumU us = sumU (us.take k) + sumU (us.drop k) := by
    rw [sumU, sumU, sumU, ← List.sum_append, ← List.map_append, List.take_append_drop]
  omega

set_option maxHeartbeats 1000000 in
theorem szUserS_any (A : Option Addr) (n c : Nat) (us : List User) (left : Int) (w : World) (hr : Rd w w.heap.size 2 A n c (us.flatMap encU)) (hn : us.length = n) (h0 : 0 ≤ left) (h1 : left ≤ 1048576)
    (hs1 : ∀ u ∈ us, u.name.size ≤ maxLen) (hs2 : ∀ u ∈ us, u.pass.size ≤ maxLen) :
    Calls Try.prog 50 #[.slice A n c, .int .i64 left] w fun e w' => e = .returned (.int .i64 (leftOf left (n + sumU us))) ∧ Below w.heap.size w w' := by
  have hc := hr.2.1
  have hm := hr.2.2.1
  unfold maxLen at hm
  by_cases c1 : left - (n : Int) < 0
  · go_enter Try.func50, Try.ntmps50
    go_wp2_with fail
    go_ret
    exact ⟨by rw [leftOf, if_neg (by omega)]; rfl, Below.refl _ _⟩
  · go_enter Try.func50, Try.ntmps50
    go_wp2_with fail
    go_loopw [1, 5] (fun l i wr => ∃ k : Nat, k ≤ n ∧ i = .int .i64 k ∧ ∃ m : Int, l = .int .i64 m ∧ 0 ≤ m ∧ m ≤ 1048576 ∧ Hid (m = left - n - sumU (us.take k)) ∧ Below w.heap.size w wr) (fun _ i _ => n - (intOf i).toNat)
    case atStart => exact ⟨0, Nat.zero_le _, rfl, _, rfl, by omega, by omega, by show _ = _; simp [sumU], Below.refl _ _⟩
    case round =>
      obtain ⟨k, hk, rfl, m, rfl, hm0, hm1, HM, HB⟩ := hrel
      by_cases hlt : k < n
      · obtain ⟨b, off, rfl, hb, hcell⟩ := hr.elem encU_len hn hlt
        have c0 := HB.cell (p := ⟨b, off + k * 2 + 0, none⟩) hb |>.trans (hcell 0 _ rfl)
        have c0' := HB.cell (p := ⟨b, off + k * 2 + 1, none⟩) hb |>.trans (hcell 1 _ rfl)
        simp only [Nat.add_zero] at c0
        have q1 := mem_size (f := User.name) hs1 (i := k) (by omega)
        have q2 := mem_size (f := User.pass) hs2 (i := k) (by omega)
        have HS : Hid (sumU (us.take (k + 1)) = sumU (us.take k) + szU us[k]) := sumU_take (by omega)
        have HL : Hid (sumU (us.take (k + 1)) ≤ sumU us) := sumU_le us (k + 1)
        have hz := HB.size
        generalize us[k] = u at *
        go_wp2_with (go_at_call 83; refine (szUser_any u m _ hm0 hm1 q1 q2).mono ?_; rintro e w1 ⟨rfl, hb1⟩)
        · go_ret
          have hx : leftOf m (szU u) < 0 := by assumption
          have HN : leftOf left (n + sumU us) = -1 := by
            have := leftOf_neg hx; have := HM.out; have := HS.out; have := HL.out
            rw [leftOf, if_neg (by omega)]
          exact ⟨by rw [HN]; rfl, blift HB hb1 hz⟩
        · have hx : 0 ≤ leftOf m (szU u) := by assumption
          have hx' := leftOf_nn hx
          go_roundw
          case rel => exact ⟨k + 1, by omega, by go_num, _, rfl, hx, by omega, by have := HM.out; have := HS.out; show _ = _; omega, blift HB hb1 hz⟩
          case measure => simp [intOf]; omega
      · have HF : Hid (m = leftOf left (n + sumU us)) := by
          have h2 := HM.out
          rw [List.take_of_length_le (by omega)] at h2
          show _ = _
          rw [leftOf, if_pos (by omega)]; omega
        go_wp2_with fail
        go_ret
        exact ⟨by rw [← HF.out]; simp, HB⟩

theorem Try.infoUser : (Try.prog.info? 82).map (fun i => (i.zero, i.size, i.bytes)) = some (some (.agg #[.string ByteArray.empty, .string ByteArray.empty]), 2, 32) := by kernel_rfl

set_option maxHeartbeats 1000000 in
theorem toUserS_any (A : Option Addr) (n c : Nat) (us : List User) (w : World) (hr : Rd w w.heap.size 2 A n c (us.flatMap encU)) (hn : us.length = n) (hb20 : n ≤ 1048576) :
    Calls Try.prog 51 #[.slice A n c] w fun e w' => ∃ v, e = .returned v ∧ w'.ownsRow w.heap.size 82 2 v n (us.flatMap encU) ∧ Below w.heap.size w w' := by
  obtain ⟨i0, hi, hz0, hz1, hz2⟩ := info_parts Try.infoUser
  have hc := hr.2.1
  have hm := hr.2.2.1
  unfold maxLen at hm
  go_enter Try.func51, Try.ntmps51
  go_wp2_with (at_make; refine wpList_make_full _ rfl _ _ 40 rfl w.heap.size 82 i0 _ 2 Try.underlying40 hi hz0 hz1 _ _ _ _ n rfl rfl rfl rfl ?_ ?_ ?_ ?_; rotate_right; intro w1 hown hgrow)
  case refine_1 => rw [hz2]; omega
  case refine_2 => unfold maxLen; omega
  case refine_3 => exact Nat.le_refl _
  have HB1 : Below w.heap.size w w1 := (Below.refl _ _).grown hgrow (Nat.le_refl _) (fun k hk => by cases hk)
  have HL1 := own_len hown
  generalize (madeCells (Value.cells (.agg #[.string ByteArray.empty, .string ByteArray.empty])) (n * 2)).toList = cs0 at *
  clear hgrow
  go_loopw [4] (fun i wr => ∃ k : Nat, k ≤ n ∧ i = .int .i64 k ∧ Below w.heap.size w wr ∧ ∃ cs, wr.ownsRow w.heap.size 82 2 (.slice (some ⟨w.heap.size, 0, none⟩) n n) n cs ∧ Hid (cs.take (k * 2) = (us.take k).flatMap encU)) (fun i _ => n - (intOf i).toNat)
  case atStart => exact ⟨0, Nat.zero_le _, rfl, HB1, cs0, hown, by show _ = _; simp⟩
  case round =>
    clear HB1 hown HL1
    obtain ⟨k, hk, rfl, HB, cs, hown, HC⟩ := hrel
    by_cases hlt : k < n
    · obtain ⟨b, off, rfl, hb, hcell⟩ := hr.elem encU_len hn hlt
      have c0 := HB.cell (p := ⟨b, off + k * 2 + 0, none⟩) (by omega) |>.trans (hcell 0 _ rfl)
      have c0' := HB.cell (p := ⟨b, off + k * 2 + 1, none⟩) (by omega) |>.trans (hcell 1 _ rfl)
      simp only [Nat.add_zero] at c0
      have hz := HB.size
      have HT : Hid ((setL cs (k * 2) (encU us[k])).take ((k + 1) * 2) = (us.take (k + 1)).flatMap encU) := take_flat encU_len (by omega) HC.out (by rw [hown.1, hn])
      have hlc := hown.1
      clear hcell
      generalize us[k] = u at *
      go_wp2_with (go_at_call 84; refine (toUser_any u _).mono ?_; rintro e w1 ⟨rfl, hb1⟩; have hown1 := own_grow hown hb1; obtain ⟨v0, hv0, d0⟩ := own_cell hown1 (j := k * 2) (by omega); obtain ⟨v1, hv1, d1⟩ := own_cell hown1 (j := k * 2 + 1) (by omega); have f0 := hown1.frozenAt (k * 2); have f1 := hown1.frozenAt (k * 2 + 1))
      go_roundw
      case rel => exact ⟨k + 1, by omega, by go_num, ((blift HB hb1 hz).setCell (by simp) _).setCell (by simp) _, _, (((hown1.stored (k * 2) (.string u.name)).1).stored (k * 2 + 1) (.string u.pass)).1, HT⟩
      case measure => simp [intOf]; omega
    · have HF : Hid (cs = us.flatMap encU) := by
        have h2 := HC.out
        rw [show k = n by omega] at h2
        exact take_flat_end hn h2 hown.1
      go_wp2_with fail
      go_ret
      exact ⟨_, rfl, by rw [← HF.out]; exact hown, HB⟩

set_option maxHeartbeats 1000000 in
theorem eqUserS_any (A A' : Option Addr) (n c c' : Nat) (us : List User) (w : World) (hr : Rd w w.heap.size 2 A n c (us.flatMap encU)) (hr' : Rd w w.heap.size 2 A' n c' (us.flatMap encU)) (hn : us.length = n) :
    Calls Try.prog 53 #[.slice A n c, .slice A' n c'] w fun e w' => e = .returned (.bool true) ∧ Below w.heap.size w w' := by
  have hc := hr.2.1
  have hm := hr.2.2.1
  have hc' := hr'.2.1
  unfold maxLen at hm
  go_enter Try.func53, Try.ntmps53
  go_wp2_with fail
  go_loopw [5] (fun i wr => ∃ k : Nat, k ≤ n ∧ i = .int .i64 k ∧ Below w.heap.size w wr) (fun i _ => n - (intOf i).toNat)
  case atStart => exact ⟨0, Nat.zero_le _, rfl, Below.refl _ _⟩
  case round =>
    obtain ⟨k, hk, rfl, HB⟩ := hrel
    by_cases hlt : k < n
    · obtain ⟨b, off, rfl, hb, hcell⟩ := hr.elem encU_len hn hlt
      obtain ⟨b', off', rfl, hb', hcell'⟩ := hr'.elem encU_len hn hlt
      have hz := HB.size
      have hrow : ∀ W, Below w.heap.size w W → W.cell? ⟨b, off + k * 2, none⟩ = some (.string us[k].name) ∧ W.cell? ⟨b, off + k * 2 + 1, none⟩ = some (.string us[k].pass) ∧ W.cell? ⟨b', off' + k * 2, none⟩ = some (.string us[k].name) ∧ W.cell? ⟨b', off' + k * 2 + 1, none⟩ = some (.string us[k].pass) := fun W h =>
        ⟨(h.cell (p := ⟨b, _, none⟩) hb).trans (hcell 0 _ rfl), (h.cell (p := ⟨b, _, none⟩) hb).trans (hcell 1 _ rfl), (h.cell (p := ⟨b', _, none⟩) hb').trans (hcell' 0 _ rfl), (h.cell (p := ⟨b', _, none⟩) hb').trans (hcell' 1 _ rfl)⟩
      obtain ⟨c0, c1, c2, c3⟩ := hrow wr HB
      clear hcell hcell' hrow
      generalize us[k] = u at *
      have hk1 : (k : Int) < (n : Int) := by omega
      go_wp2_with fail
      go_region_with (go_at_call 85; refine (eqUser_any u _).mono ?_; rintro e w1 ⟨rfl, hb1⟩)
      all_goals
        go_wp2
        go_roundw
        case rel => exact ⟨k + 1, by omega, by go_num, blift HB.drew hb1 hz⟩
        case measure => simp [intOf]; omega
    · go_wp2_with fail
      go_ret
      exact ⟨rfl, HB⟩

theorem szFar_any (A : Option Addr) (n c : Nat) (us : List User) (fail made : Int) (left : Int) (w : World) (hr : Rd w w.heap.size 2 A n c (us.flatMap encU)) (hn : us.length = n) (h0 : 0 ≤ left) (h1 : left ≤ 1048576)
    (hs1 : ∀ u ∈ us, u.name.size ≤ maxLen) (hs2 : ∀ u ∈ us, u.pass.size ≤ maxLen) :
    Calls Try.prog 19 #[.agg #[.slice A n c, .int .i64 fail, .int .i64 made], .int .i64 left] w fun e w' => e = .returned (.int .i64 (leftOf left (n + sumU us))) ∧ Below w.heap.size w w' := by
  go_enter Try.func19, Try.ntmps19
  go_wp2_with (go_at_call 50; refine (szUserS_any A n c us left _ ?_ hn h0 h1 hs1 hs2).mono ?_; exact (hr.below ((Below.refl _ _).alloc (Nat.le_refl _) _) (Nat.le_refl _)).more (by simp); rintro e w1 ⟨rfl, hb1⟩)
  · go_ret
    have hx : leftOf left (n + sumU us) < 0 := by assumption
    refine ⟨?_, ((Below.refl _ _).alloc (Nat.le_refl _) _).trans (hb1.mono (by simp))⟩
    have : leftOf left (n + sumU us) = -1 := by
      have := leftOf_neg hx
      rw [leftOf, if_neg (by omega)]
    rw [this]; rfl
  · go_ret
    exact ⟨rfl, ((Below.refl _ _).alloc (Nat.le_refl _) _).trans (hb1.mono (by simp))⟩

theorem toFar_any (A : Option Addr) (n c : Nat) (us : List User) (fail made : Int) (w : World) (hr : Rd w w.heap.size 2 A n c (us.flatMap encU)) (hn : us.length = n) (hb20 : n ≤ 1048576) :
    Calls Try.prog 21 #[.agg #[.slice A n c, .int .i64 fail, .int .i64 made]] w fun e w' => ∃ A' c', e = .returned (.agg #[.slice A' n c', .int .i64 fail, .int .i64 made]) ∧ w'.ownsRow w.heap.size 82 2 (.slice A' n c') n (us.flatMap encU) ∧ Below w.heap.size w w' := by
  go_enter Try.func21, Try.ntmps21
  go_wp2_with fail
  refine (toUserS_any A n c us _ ?_ hn hb20).mono ?_
  · exact (hr.below (by go_grown) (Nat.le_refl _)).more (by simp; omega)
  rintro e w1 ⟨v, rfl, hown, hb1⟩
  simp only [World.size_alloc] at hown hb1
  obtain ⟨A', c', rfl, -, -⟩ := own_rd hown
  have HO := Lib.hid hown; clear hown
  obtain ⟨hcs, hfs⟩ := bcell hb1
  have hz : w.heap.size + 2 < w1.heap.size := by have := hb1.size; simp at this; omega
  go_wp2
  refine bodyPost_ret (v := .agg #[.slice A' n c', .int .i64 fail, .int .i64 made]) (by simp [results, Try.results21, go_sem, hcs]) rfl ⟨_, _, rfl, ?_, ?_⟩
  · refine own_base (base := w.heap.size + 1 + 1 + 1) ?_ (by omega)
    have HO' := HO.out
    repeat (first | (with_reducible exact HO') | ((with_reducible refine own_set ?_ ?_ _); rotate_left; omega))
  · have h3 : Below w.heap.size w w1 := (show Below w.heap.size w (((w.alloc _).alloc _).alloc _) by go_grown).trans (hb1.mono (by omega))
    repeat (first | (with_reducible exact h3) | ((with_reducible refine below_set ?_ ?_ _); rotate_left; omega))

theorem eqFar_any (A A' : Option Addr) (n c c' : Nat) (us : List User) (fail made : Int) (w : World) (hr : Rd w w.heap.size 2 A n c (us.flatMap encU)) (hr' : Rd w w.heap.size 2 A' n c' (us.flatMap encU)) (hn : us.length = n) :
    Calls Try.prog 23 #[.agg #[.slice A n c, .int .i64 fail, .int .i64 made], .agg #[.slice A' n c', .int .i64 fail, .int .i64 made]] w fun e w' => e = .returned (.bool true) ∧ Below w.heap.size w w' := by
  go_enter Try.func23, Try.ntmps23
  go_wp2_with fail
  refine (eqUserS_any A A' n c c' us _ ?_ ?_ hn).mono ?_
  · exact (hr.below (by go_grown) (Nat.le_refl _)).more (by simp; omega)
  · exact (hr'.below (by go_grown) (Nat.le_refl _)).more (by simp; omega)
  rintro e w1 ⟨rfl, hb1⟩
  obtain ⟨hcs, hfs⟩ := bcell hb1
  have hz : w.heap.size + 1 < w1.heap.size := by have := hb1.size; simp at this; omega
  go_wp2
  go_ret
  exact ⟨rfl, (show Below w.heap.size w ((w.alloc _).alloc _) by go_grown).trans (hb1.mono (by simp; omega))⟩
end Go.Proofs.Ytinenkjfdmajkaa
