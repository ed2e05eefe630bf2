/- Elements User: data, and contracts of the statements' own helpers over them. No condition. -/
import Derived.Test.YtaaloiloklnbiaaDoorMark
import Derived.Deep.QuietTactic
import Derived.BigQuiet
import Derived.Deep.RegionHeld3
namespace Go.Proofs.YtaaloiloklnbiaaDoor
open Go.RowKit

structure User where
  name : ByteArray
  pass : ByteArray
def encUser (x : User) : List Value := [.string x.name, .string x.pass]
theorem encUser_len (x : User) : (encUser x).length = 2 := rfl
def UserFits (x : User) : Prop := x.name.size ≤ maxLen ∧ x.pass.size ≤ maxLen
theorem UserFits.name {x : User} (h : UserFits x) : x.name.size ≤ maxLen := h.1
theorem UserFits.pass {x : User} (h : UserFits x) : x.pass.size ≤ maxLen := h.2
def szUser (x : User) : Nat := x.name.size + x.pass.size
def sumUser (us : List User) : Nat := (us.map szUser).sum
theorem sumUser_take {us : List User} {k : Nat} (h : k < us.length) : sumUser (us.take (k + 1)) = sumUser (us.take k) + szUser us[k] := by
  rw [sumUser, sumUser, List.take_succ_eq_append_getElem h, List.map_append, List.sum_append, List.map_cons, List.map_nil, List.sum_cons, List.sum_nil, Nat.add_zero]
theorem sumUser_le (us : List User) (k : Nat) : sumUser (us.take k) ≤ sumUser us := by
  have h : sumUser us = sumUser (us.take k) + sumUser (us.drop k) := by rw [sumUser, sumUser, sumUser, ← List.sum_append, ← List.map_append, List.take_append_drop]
  omega

theorem Tryd.infoUser : (Tryd.prog.info? 34).map (fun i => (i.zero, i.size, i.bytes)) = some (some (.agg #[.string ByteArray.empty, .string ByteArray.empty]), 2, 32) := by kernel_rfl
theorem toUser_any (u : User) (w : World) :
    Calls Tryd.prog 73 #[.agg #[.string u.name, .string u.pass]] w fun e w' => e = .returned (.agg #[.string u.name, .string u.pass]) ∧ Below w.heap.size w w' := by
  go_enter Tryd.func73, Tryd.ntmps73
  go_wp2
  refine bodyPost_ret (v := .agg #[.string u.name, .string u.pass]) (by simp [results, Tryd.results73, go_sem]) rfl ⟨rfl, ?_⟩
  go_grown

theorem eqUser_any (u : User) (w : World) :
    Calls Tryd.prog 20 #[.agg #[.string u.name, .string u.pass], .agg #[.string u.name, .string u.pass]] w fun e w' => e = .returned (.bool true) ∧ Below w.heap.size w w' := by
  go_enter Tryd.func20, Tryd.ntmps20
  go_wp2
  go_ret
  refine ⟨rfl, ?_⟩
  go_grown

set_option maxHeartbeats 1000000 in
theorem szUser_any (u : User) (left : Int) (w : World) (h0 : 0 ≤ left) (h1 : left ≤ 1048576) (hf : UserFits u) :
    Calls Tryd.prog 68 #[.agg #[.string u.name, .string u.pass], .int .i64 left] w fun e w' => e = .returned (.int .i64 (leftOf left (szUser u))) ∧ Below w.heap.size w w' := by
  have HE : Hid (szUser u = u.name.size + u.pass.size) := rfl
  have q0 := hf.name
  have q1 := hf.pass
  unfold maxLen at q0 q1
  generalize u.name = s0 at *
  generalize u.pass = s1 at *
  by_cases c0 : left - (s0.size : Int) < 0
  · have HL : Hid (leftOf left (szUser u) = -1) := by have := HE.out; show _ = _; rw [leftOf, if_neg (by omega)]
    clear HE
    go_enter Tryd.func68, Tryd.ntmps68
    go_wp2
    go_ret
    exact ⟨by rw [HL.out]; rfl, (Below.refl _ _).alloc (Nat.le_refl _) _⟩
  by_cases c1 : left - (s0.size : Int) - (s1.size : Int) < 0
  · have HL : Hid (leftOf left (szUser u) = -1) := by have := HE.out; show _ = _; rw [leftOf, if_neg (by omega)]
    clear HE
    go_enter Tryd.func68, Tryd.ntmps68
    go_wp2
    go_ret
    exact ⟨by rw [HL.out]; rfl, (Below.refl _ _).alloc (Nat.le_refl _) _⟩
  have HL : Hid (leftOf left (szUser u) = left - (s0.size : Int) - (s1.size : Int)) := by have := HE.out; show _ = _; rw [leftOf, if_pos (by omega)]; omega
  clear HE
  go_enter Tryd.func68, Tryd.ntmps68
  go_wp2
  go_ret
  exact ⟨by rw [HL.out]; rfl, (Below.refl _ _).alloc (Nat.le_refl _) _⟩

set_option maxHeartbeats 1000000 in
theorem szUserS_any (A : Option Addr) (n c : Nat) (us : List User) (left : Int) (w : World) (hr : Rd w w.heap.size 2 A n c (us.flatMap encUser)) (hn : us.length = n) (h0 : 0 ≤ left) (h1 : left ≤ 1048576) (hf : ∀ u ∈ us, UserFits u) :
    Calls Tryd.prog 41 #[.slice A n c, .int .i64 left] w fun e w' => e = .returned (.int .i64 (leftOf left (n + sumUser us))) ∧ Below w.heap.size w w' := by
  have hc := hr.2.1
  have hm := hr.2.2.1
  unfold maxLen at hm
  by_cases c1 : left - (n : Int) < 0
  · go_enter Tryd.func41, Tryd.ntmps41
    go_wp2_with fail
    go_ret
    exact ⟨by rw [leftOf, if_neg (by omega)]; rfl, Below.refl _ _⟩
  · go_enter Tryd.func41, Tryd.ntmps41
    go_wp2_with fail
    go_loopw [1, 5] (fun l i wr => ∃ k : Nat, k ≤ n ∧ i = .int .i64 k ∧ ∃ m : Int, l = .int .i64 m ∧ 0 ≤ m ∧ m ≤ 1048576 ∧ Hid (m = left - n - sumUser (us.take k)) ∧ Below w.heap.size w wr) (fun _ i _ => n - (intOf i).toNat)
    case atStart => exact ⟨0, Nat.zero_le _, rfl, _, rfl, by omega, by omega, by show _ = _; simp [sumUser], Below.refl _ _⟩
    case round =>
      obtain ⟨k, hk, rfl, m, rfl, hm0, hm1, HM, HB⟩ := hrel
      by_cases hlt : k < n
      · obtain ⟨b, off, rfl, hb, hcell⟩ := hr.elem encUser_len hn hlt
        have c0 := HB.cell (p := ⟨b, off + k * 2 + 0, none⟩) hb |>.trans (hcell 0 _ rfl)
        have c1 := HB.cell (p := ⟨b, off + k * 2 + 1, none⟩) hb |>.trans (hcell 1 _ rfl)
        simp only [Nat.add_zero] at c0
        have hfk := hf us[k] (List.getElem_mem (by omega))
        have HS : Hid (sumUser (us.take (k + 1)) = sumUser (us.take k) + szUser us[k]) := sumUser_take (by omega)
        have HL : Hid (sumUser (us.take (k + 1)) ≤ sumUser us) := sumUser_le us (k + 1)
        have hz := HB.size
        clear hcell
        generalize us[k] = u at *
        go_wp2_with (go_at_call 68; refine (szUser_any u m _ hm0 hm1 hfk).mono ?_; rintro e w1 ⟨rfl, hb1⟩)
        · go_ret
          have hx : leftOf m (szUser u) < 0 := by assumption
          have HN : leftOf left (n + sumUser us) = -1 := by
            have := leftOf_neg hx; have := HM.out; have := HS.out; have := HL.out
            rw [leftOf, if_neg (by omega)]
          exact ⟨by rw [HN]; rfl, blift HB hb1 hz⟩
        · have hx : 0 ≤ leftOf m (szUser u) := by assumption
          have hx' := leftOf_nn hx
          go_roundw
          case rel => exact ⟨k + 1, by omega, by go_num, _, rfl, hx, by omega, by have := HM.out; have := HS.out; show _ = _; omega, blift HB hb1 hz⟩
          case measure => simp [intOf]; omega
      · have HF : Hid (m = leftOf left (n + sumUser us)) := by
          have h2 := HM.out
          rw [List.take_of_length_le (by omega)] at h2
          show _ = _
          rw [leftOf, if_pos (by omega)]; omega
        go_wp2_with fail
        go_ret
        exact ⟨by rw [← HF.out]; simp, HB⟩

set_option maxHeartbeats 1000000 in
theorem toUserS_any (A : Option Addr) (n c : Nat) (us : List User) (w : World) (hr : Rd w w.heap.size 2 A n c (us.flatMap encUser)) (hn : us.length = n) (hb20 : n ≤ 1048576) :
    Calls Tryd.prog 48 #[.slice A n c] w fun e w' => ∃ A' c', e = .returned (.slice A' n c') ∧ Own w' w.heap.size w'.heap.size 34 2 (.slice A' n c') n (us.flatMap encUser) ∧ Below w.heap.size w w' := by
  obtain ⟨i0, hi, hz0, hz1, hz2⟩ := info_parts Tryd.infoUser
  have hc := hr.2.1
  have hm := hr.2.2.1
  unfold maxLen at hm
  go_enter Tryd.func48, Tryd.ntmps48
  go_wp2_with (at_make; refine wpList_make_full _ rfl _ _ 24 rfl w.heap.size 34 i0 _ 2 Tryd.underlying24 hi hz0 hz1 _ _ _ _ n rfl rfl rfl rfl ?_ ?_ ?_ ?_; rotate_right; intro w1 hown hgrow)
  case refine_1 => rw [hz2]; omega
  case refine_2 => unfold maxLen; omega
  case refine_3 => exact Nat.le_refl _
  have HB1 : Below w.heap.size w w1 := (Below.refl _ _).grown hgrow (Nat.le_refl _) (fun k hk => by cases hk)
  generalize (madeCells (Value.cells (.agg #[.string ByteArray.empty, .string ByteArray.empty])) (n * 2)).toList = cs0 at *
  clear hgrow
  go_loopw [4] (fun i wr => ∃ k : Nat, k ≤ n ∧ i = .int .i64 k ∧ Below w.heap.size w wr ∧ ∃ cs, wr.ownsRow w.heap.size 34 2 (.slice (some ⟨w.heap.size, 0, none⟩) n n) n cs ∧ Hid (cs.take (k * 2) = (us.take k).flatMap encUser)) (fun i _ => n - (intOf i).toNat)
  case atStart => exact ⟨0, Nat.zero_le _, rfl, HB1, cs0, hown, by show _ = _; simp⟩
  case round =>
    clear HB1 hown
    obtain ⟨k, hk, rfl, HB, cs, hown, HC⟩ := hrel
    by_cases hlt : k < n
    · obtain ⟨b, off, rfl, hb, hcell⟩ := hr.elem encUser_len hn hlt
      have c0 := HB.cell (p := ⟨b, off + k * 2 + 0, none⟩) (by omega) |>.trans (hcell 0 _ rfl)
      have c1 := HB.cell (p := ⟨b, off + k * 2 + 1, none⟩) (by omega) |>.trans (hcell 1 _ rfl)
      simp only [Nat.add_zero] at c0
      have hz := HB.size
      have HT : Hid ((setL cs (k * 2) (encUser us[k])).take ((k + 1) * 2) = (us.take (k + 1)).flatMap encUser) := take_flat encUser_len (by omega) HC.out (by rw [hown.1, hn])
      clear hcell
      generalize us[k] = u at *
      go_wp2_with (go_at_call 73; refine (toUser_any u _).mono ?_; rintro e w1 ⟨rfl, hb1⟩; have hown1 := own_grow hown hb1; obtain ⟨v0, hv0, d0⟩ := own_cell hown1 (j := k * 2 + 0) (by omega); have f0 := hown1.frozenAt (k * 2 + 0); obtain ⟨v1, hv1, d1⟩ := own_cell hown1 (j := k * 2 + 1) (by omega); have f1 := hown1.frozenAt (k * 2 + 1); simp only [Nat.add_zero] at d0 f0)
      go_roundw
      case rel => exact ⟨k + 1, by omega, by go_num, (((blift HB hb1 hz).setCell (by simp) _).setCell (by simp) _), _, ((hown1.stored (k * 2) (.string u.name)).1.stored (k * 2 + 1) (.string u.pass)).1, HT⟩
      case measure => simp [intOf]; omega
    · have HF : Hid (cs = us.flatMap encUser) := by
        have h2 := HC.out
        rw [show k = n by omega] at h2
        exact take_flat_end hn h2 hown.1
      go_wp2_with fail
      go_ret
      exact ⟨_, _, rfl, Own.of (by rw [← HF.out]; exact hown), HB⟩

set_option maxHeartbeats 2000000 in
theorem eqUserS_any (A A' : Option Addr) (n c c' : Nat) (us : List User) (w : World) (hr : Rd w w.heap.size 2 A n c (us.flatMap encUser)) (hr' : Rd w w.heap.size 2 A' n c' (us.flatMap encUser)) (hn : us.length = n) :
    Calls Tryd.prog 49 #[.slice A n c, .slice A' n c'] w fun e w' => e = .returned (.bool true) ∧ Below w.heap.size w w' := by
  have hc := hr.2.1
  have hm := hr.2.2.1
  have hc' := hr'.2.1
  unfold maxLen at hm
  go_enter Tryd.func49, Tryd.ntmps49
  go_wp2_with fail
  go_loopw [5] (fun i wr => ∃ k : Nat, k ≤ n ∧ i = .int .i64 k ∧ Below w.heap.size w wr) (fun i _ => n - (intOf i).toNat)
  case atStart => exact ⟨0, Nat.zero_le _, rfl, Below.refl _ _⟩
  case round =>
    obtain ⟨k, hk, rfl, HB⟩ := hrel
    by_cases hlt : k < n
    · obtain ⟨b, off, rfl, hb, hcell⟩ := hr.elem encUser_len hn hlt
      obtain ⟨b', off', rfl, hb', hcell'⟩ := hr'.elem encUser_len hn hlt
      have hz := HB.size
      have c0 := HB.cell (p := ⟨b, off + k * 2 + 0, none⟩) hb |>.trans (hcell 0 _ rfl)
      have e0 := HB.cell (p := ⟨b', off' + k * 2 + 0, none⟩) hb' |>.trans (hcell' 0 _ rfl)
      have c1 := HB.cell (p := ⟨b, off + k * 2 + 1, none⟩) hb |>.trans (hcell 1 _ rfl)
      have e1 := HB.cell (p := ⟨b', off' + k * 2 + 1, none⟩) hb' |>.trans (hcell' 1 _ rfl)
      simp only [Nat.add_zero] at c0 e0
      clear hcell hcell'
      generalize us[k] = u at *
      have hk1 : (k : Int) < (n : Int) := by omega
      go_wp2_with fail
      go_region_with (go_at_call 20; refine (eqUser_any u _).mono ?_; rintro e w1 ⟨rfl, hb1⟩)
      all_goals
        go_wp2
        go_roundw
        case rel => exact ⟨k + 1, by omega, by go_num, blift HB.drew hb1 hz⟩
        case measure => simp [intOf]; omega
    · go_wp2_with fail
      go_ret
      exact ⟨rfl, HB⟩

def markUserE (m i : Nat) : List Value := [.string (mkText (m + i * 2 + 0)), .string (mkText (m + i * 2 + 1))]
theorem markUserE_len (m : Nat) (i : Nat) : (markUserE m i).length = 2 := rfl
def marksUser (m n : Nat) : List Value := (List.range n).flatMap (markUserE m)
set_option maxHeartbeats 4000000 in
theorem markUserS_any (A : Option Addr) (n c m lo hi : Nat) (xs : List Value) (w : World) (h : Own w lo hi 34 2 (.slice A n c) n xs) (h0 : 0 < m) (hm : m + n * 2 ≤ 1125899906842624) :
    Calls Tryd.prog 50 #[.slice A n c, .int .i64 m] w fun e w' => e = .returned (.int .i64 ((m + n * 2 : Nat) : Int)) ∧ Own w' lo hi 34 2 (.slice A n c) n (marksUser m n) ∧ Chg w w' lo hi := by
  have hr := h.rd
  have hc := hr.2.1
  have hmx := hr.2.2.1
  unfold maxLen at hmx
  clear hr
  go_enter Tryd.func50, Tryd.ntmps50
  go_wp2_with fail
  go_loopw [1, 5] (fun l i wr => ∃ k : Nat, k ≤ n ∧ i = .int .i64 k ∧ l = .int .i64 ((m + k * 2 : Nat) : Int) ∧ Chg w wr lo hi ∧ ∃ cs, Own wr lo hi 34 2 (.slice A n c) n cs ∧ Hid (cs.take (k * 2) = ((List.range n).take k).flatMap (markUserE m))) (fun _ i _ => n - (intOf i).toNat)
  case atStart => exact ⟨0, Nat.zero_le _, rfl, by simp, Chg.refl _ _ _, xs, h, by show _ = _; simp⟩
  case round =>
    clear h
    obtain ⟨k, hk, rfl, rfl, HC, cs, own0, HT⟩ := hrel
    by_cases hlt : k < n
    · obtain ⟨g, rfl, hg1, hg2⟩ := own0.at_ (by omega)
      have HT' : Hid ((setL cs (k * 2) (markUserE m k)).take ((k + 1) * 2) = ((List.range n).take (k + 1)).flatMap (markUserE m)) := by
        have := take_flat (us := List.range n) (markUserE_len m) (i := k) (by simpa using hlt) (by exact HT.out) (by rw [own0.1.1]; simp)
        rw [List.getElem_range] at this
        exact this
      have hkk : k * 2 + 2 ≤ n * 2 := by omega
      have HS : w.heap.size ≤ _ := HC.size
      -- field name
      go_wp2_with fail
      refine (markText_any _ _ (by omega) (by omega)).mono ?_
      rintro e w0 ⟨rfl, hb0⟩
      have own0' := own0.grow' hb0
      have HC0' := HC.grow hb0
      have ht0 : ((m : Int) + (k : Int) * 2).toNat = m + k * 2 + 0 := by omega
      rw [ht0]; clear ht0
      obtain ⟨v0, -, d0⟩ := own_cell own0'.1 (j := k * 2 + 0) (by omega)
      have f0 := own0'.1.frozenAt (k * 2 + 0)
      simp only [Nat.add_zero] at d0 f0
      have own1 := own0'.set_in (j := k * 2) (.string (mkText (m + k * 2 + 0)))
      have HC1 := HC0'.set (b := g) (o := k * 2) (.inl ⟨hg1, hg2⟩) (.string (mkText (m + k * 2 + 0)))
      -- field pass
      go_wp2_with fail
      refine (markText_any _ _ (by omega) (by omega)).mono ?_
      rintro e w1 ⟨rfl, hb1⟩
      have own1' := own1.grow' hb1
      have HC1' := HC1.grow hb1
      have ht1 : ((m : Int) + (k : Int) * 2 + 1).toNat = m + k * 2 + 1 := by omega
      rw [ht1]; clear ht1
      obtain ⟨v1, -, d1⟩ := own_cell own1'.1 (j := k * 2 + 1) (by omega)
      have f1 := own1'.1.frozenAt (k * 2 + 1)
      have own2 := own1'.set_in (j := k * 2 + 1) (.string (mkText (m + k * 2 + 1)))
      have HC2 := HC1'.set (b := g) (o := k * 2 + 1) (.inl ⟨hg1, hg2⟩) (.string (mkText (m + k * 2 + 1)))
      go_wp2
      go_roundw
      case rel => exact ⟨k + 1, by omega, by go_num, by go_num, HC2, _, own2, HT'⟩
      case measure => simp [intOf]; omega
    · have HF : Hid (cs = marksUser m n) := by
        have h2 := HT.out
        rw [show k = n by omega] at h2
        exact take_flat_end (us := List.range n) (by simp) (by exact h2) own0.1.1
      have HK : Hid (k = n) := by show _ = _; omega
      go_wp2_with fail
      go_ret
      exact ⟨by rw [← HK.out]; rfl, by rw [← HF.out]; exact own0, HC⟩

set_option maxHeartbeats 4000000 in
theorem heldUserS_any (A : Option Addr) (n c m : Nat) (w : World) (hr : Rd w w.heap.size 2 A n c (marksUser m n)) (h0 : 0 < m) (hm : m + n * 2 ≤ 1125899906842624) :
    Calls Tryd.prog 51 #[.slice A n c, .int .i64 m] w fun e w' => e = .returned (.int .i64 ((m + n * 2 : Nat) : Int)) ∧ Below w.heap.size w w' := by
  have hc := hr.2.1
  have hmx := hr.2.2.1
  unfold maxLen at hmx
  go_enter Tryd.func51, Tryd.ntmps51
  go_wp2_with fail
  go_loopw [1, 5] (fun l i wr => ∃ k : Nat, k ≤ n ∧ i = .int .i64 k ∧ l = .int .i64 ((m + k * 2 : Nat) : Int) ∧ Below w.heap.size w wr) (fun _ i _ => n - (intOf i).toNat)
  case atStart => exact ⟨0, Nat.zero_le _, rfl, by simp, Below.refl _ _⟩
  case round =>
    obtain ⟨k, hk, rfl, rfl, HB⟩ := hrel
    by_cases hlt : k < n
    · obtain ⟨b, off, rfl, hb, hcell⟩ := Rd.elem (us := List.range n) hr (markUserE_len m) (by simp) hlt
      rw [List.getElem_range] at hcell
      have hz := HB.size
      have hkk : k * 2 + 2 ≤ n * 2 := by omega
      have hk1 : (k : Int) < (n : Int) := by omega
      have hl0 : ∀ W, Below w.heap.size w W → W.cell? ⟨b, off + k * 2 + 0, none⟩ = some (.string (mkText (m + k * 2 + 0))) := fun W h => (h.cell (p := ⟨b, _, none⟩) hb).trans (hcell 0 _ rfl)
      have hl1 : ∀ W, Below w.heap.size w W → W.cell? ⟨b, off + k * 2 + 1, none⟩ = some (.string (mkText (m + k * 2 + 1))) := fun W h => (h.cell (p := ⟨b, _, none⟩) hb).trans (hcell 1 _ rfl)
      simp only [Nat.add_zero] at hl0
      clear hcell
      have x0 := hl0 _ HB
      go_wp2_with fail
      have ht0 : ((m : Int) + (k : Int) * 2).toNat = m + k * 2 + 0 := by omega
      have HT0 := Lib.hid ht0; clear ht0
      go_region_with (go_at_call 74; refine (markText_any _ _ (by omega) (by omega)).mono ?_; rintro e w0 ⟨rfl, hb0⟩; rw [HT0.out]; have y0 := hl0 _ (blift HB.drew hb0 (by exact HB.size)))
      all_goals
        have HB0 := blift HB.drew hb0 (by exact HB.size)
        have x1 := hl1 _ HB0
        go_wp2_with fail
        have ht1 : ((m : Int) + (k : Int) * 2 + 1).toNat = m + k * 2 + 1 := by omega
        have HT1 := Lib.hid ht1; clear ht1
        go_region_with (go_at_call 74; refine (markText_any _ _ (by omega) (by omega)).mono ?_; rintro e w1 ⟨rfl, hb1⟩; rw [HT1.out]; have y1 := hl1 _ (blift HB0.drew hb1 (by exact HB0.size)))
        all_goals
          have HB1 := blift HB0.drew hb1 (by exact HB0.size)
          go_wp2
          go_roundw
          case rel => exact ⟨k + 1, by omega, by go_num, by go_num, HB1⟩
          case measure => simp [intOf]; omega
    · have HK : Hid (k = n) := by show _ = _; omega
      go_wp2_with fail
      go_ret
      exact ⟨by rw [← HK.out]; rfl, HB⟩

end Go.Proofs.YtaaloiloklnbiaaDoor
