/- Elements CertKey: data, and contracts of the statements' own helpers over them. No condition. -/
import Derived.Test.YtaaloiloklnbiaaGreatDoorMark
import Derived.Deep.QuietTactic
import Derived.BigQuiet
import Derived.Deep.RegionHeld3
namespace Go.Proofs.YtaaloiloklnbiaaGreatDoor
open Go.RowKit

structure CertKey where
  ser : Int
  key : Int
def encCertKey (x : CertKey) : List Value := [.int .i64 x.ser, .int .i64 x.key]
theorem encCertKey_len (x : CertKey) : (encCertKey x).length = 2 := rfl
def CertKeyFits (x : CertKey) : Prop := x = x
def szCertKey (x : CertKey) : Nat := 0
def sumCertKey (us : List CertKey) : Nat := (us.map szCertKey).sum
theorem sumCertKey_take {us : List CertKey} {k : Nat} (h : k < us.length) : sumCertKey (us.take (k + 1)) = sumCertKey (us.take k) + szCertKey us[k] := by
  rw [sumCertKey, sumCertKey, List.take_succ_eq_append_getElem h, List.map_append, List.sum_append, List.map_cons, List.map_nil, List.sum_cons, List.sum_nil, Nat.add_zero]
theorem sumCertKey_le (us : List CertKey) (k : Nat) : sumCertKey (us.take k) ≤ sumCertKey us := by
  have h : sumCertKey us = sumCertKey (us.take k) + sumCertKey (us.drop k) := by rw [sumCertKey, sumCertKey, sumCertKey, ← List.sum_append, ← List.map_append, List.take_append_drop]
  omega

theorem Tryz.infoCertKey : (Tryz.prog.info? 68).map (fun i => (i.zero, i.size, i.bytes)) = some (some (.agg #[.int .i64 0, .int .i64 0]), 2, 16) := by kernel_rfl
theorem toCertKey_any (u : CertKey) (w : World) :
    Calls Tryz.prog 95 #[.agg #[.int .i64 u.ser, .int .i64 u.key]] w fun e w' => e = .returned (.agg #[.int .i64 u.ser, .int .i64 u.key]) ∧ Below w.heap.size w w' := by
  go_enter Tryz.func95, Tryz.ntmps95
  go_wp2
  refine bodyPost_ret (v := .agg #[.int .i64 u.ser, .int .i64 u.key]) (by simp [results, Tryz.results95, go_sem]) rfl ⟨rfl, ?_⟩
  go_grown

theorem eqCertKey_any (u : CertKey) (w : World) :
    Calls Tryz.prog 97 #[.agg #[.int .i64 u.ser, .int .i64 u.key], .agg #[.int .i64 u.ser, .int .i64 u.key]] w fun e w' => e = .returned (.bool true) ∧ Below w.heap.size w w' := by
  go_enter Tryz.func97, Tryz.ntmps97
  go_wp2
  go_ret
  refine ⟨rfl, ?_⟩
  go_grown

set_option maxHeartbeats 1000000 in
theorem szCertKeyS_any (A : Option Addr) (n c : Nat) (us : List CertKey) (left : Int) (w : World) (hr : Rd w w.heap.size 2 A n c (us.flatMap encCertKey)) (hn : us.length = n) (h0 : 0 ≤ left) (h1 : left ≤ 1048576) (hf : ∀ u ∈ us, CertKeyFits u) :
    Calls Tryz.prog 49 #[.slice A n c, .int .i64 left] w fun e w' => e = .returned (.int .i64 (leftOf left (n))) ∧ Below w.heap.size w w' := by
  have hc := hr.2.1
  have hm := hr.2.2.1
  unfold maxLen at hm
  by_cases c1 : left - (n : Int) < 0
  · go_enter Tryz.func49, Tryz.ntmps49
    go_wp2_with fail
    go_ret
    exact ⟨by rw [leftOf, if_neg (by omega)]; rfl, Below.refl _ _⟩
  · go_enter Tryz.func49, Tryz.ntmps49
    go_wp2_with fail
    go_ret
    exact ⟨by rw [leftOf, if_pos (by omega)]; rfl, Below.refl _ _⟩

set_option maxHeartbeats 1000000 in
theorem toCertKeyS_any (A : Option Addr) (n c : Nat) (us : List CertKey) (w : World) (hr : Rd w w.heap.size 2 A n c (us.flatMap encCertKey)) (hn : us.length = n) (hb20 : n ≤ 1048576) :
    Calls Tryz.prog 52 #[.slice A n c] w fun e w' => ∃ A' c', e = .returned (.slice A' n c') ∧ Own w' w.heap.size w'.heap.size 68 2 (.slice A' n c') n (us.flatMap encCertKey) ∧ Below w.heap.size w w' := by
  obtain ⟨i0, hi, hz0, hz1, hz2⟩ := info_parts Tryz.infoCertKey
  have hc := hr.2.1
  have hm := hr.2.2.1
  unfold maxLen at hm
  go_enter Tryz.func52, Tryz.ntmps52
  go_wp2_with (at_make; refine wpList_make_full _ rfl _ _ 25 rfl w.heap.size 68 i0 _ 2 Tryz.underlying25 hi hz0 hz1 _ _ _ _ n rfl rfl rfl rfl ?_ ?_ ?_ ?_; rotate_right; intro w1 hown hgrow)
  case refine_1 => rw [hz2]; omega
  case refine_2 => unfold maxLen; omega
  case refine_3 => exact Nat.le_refl _
  have HB1 : Below w.heap.size w w1 := (Below.refl _ _).grown hgrow (Nat.le_refl _) (fun k hk => by cases hk)
  generalize (madeCells (Value.cells (.agg #[.int .i64 0, .int .i64 0])) (n * 2)).toList = cs0 at *
  clear hgrow
  go_loopw [4] (fun i wr => ∃ k : Nat, k ≤ n ∧ i = .int .i64 k ∧ Below w.heap.size w wr ∧ ∃ cs, wr.ownsRow w.heap.size 68 2 (.slice (some ⟨w.heap.size, 0, none⟩) n n) n cs ∧ Hid (cs.take (k * 2) = (us.take k).flatMap encCertKey)) (fun i _ => n - (intOf i).toNat)
  case atStart => exact ⟨0, Nat.zero_le _, rfl, HB1, cs0, hown, by show _ = _; simp⟩
  case round =>
    clear HB1 hown
    obtain ⟨k, hk, rfl, HB, cs, hown, HC⟩ := hrel
    by_cases hlt : k < n
    · obtain ⟨b, off, rfl, hb, hcell⟩ := hr.elem encCertKey_len hn hlt
      have c0 := HB.cell (p := ⟨b, off + k * 2 + 0, none⟩) (by omega) |>.trans (hcell 0 _ rfl)
      have c1 := HB.cell (p := ⟨b, off + k * 2 + 1, none⟩) (by omega) |>.trans (hcell 1 _ rfl)
      simp only [Nat.add_zero] at c0
      have hz := HB.size
      have HT : Hid ((setL cs (k * 2) (encCertKey us[k])).take ((k + 1) * 2) = (us.take (k + 1)).flatMap encCertKey) := take_flat encCertKey_len (by omega) HC.out (by rw [hown.1, hn])
      clear hcell
      generalize us[k] = u at *
      go_wp2_with (go_at_call 95; refine (toCertKey_any u _).mono ?_; rintro e w1 ⟨rfl, hb1⟩; have hown1 := own_grow hown hb1; obtain ⟨v0, hv0, d0⟩ := own_cell hown1 (j := k * 2 + 0) (by omega); have f0 := hown1.frozenAt (k * 2 + 0); obtain ⟨v1, hv1, d1⟩ := own_cell hown1 (j := k * 2 + 1) (by omega); have f1 := hown1.frozenAt (k * 2 + 1); simp only [Nat.add_zero] at d0 f0)
      go_roundw
      case rel => exact ⟨k + 1, by omega, by go_num, (((blift HB hb1 hz).setCell (by simp) _).setCell (by simp) _), _, ((hown1.stored (k * 2) (.int .i64 u.ser)).1.stored (k * 2 + 1) (.int .i64 u.key)).1, HT⟩
      case measure => simp [intOf]; omega
    · have HF : Hid (cs = us.flatMap encCertKey) := by
        have h2 := HC.out
        rw [show k = n by omega] at h2
        exact take_flat_end hn h2 hown.1
      go_wp2_with fail
      go_ret
      exact ⟨_, _, rfl, Own.of (by rw [← HF.out]; exact hown), HB⟩

set_option maxHeartbeats 2000000 in
theorem eqCertKeyS_any (A A' : Option Addr) (n c c' : Nat) (us : List CertKey) (w : World) (hr : Rd w w.heap.size 2 A n c (us.flatMap encCertKey)) (hr' : Rd w w.heap.size 2 A' n c' (us.flatMap encCertKey)) (hn : us.length = n) :
    Calls Tryz.prog 55 #[.slice A n c, .slice A' n c'] w fun e w' => e = .returned (.bool true) ∧ Below w.heap.size w w' := by
  have hc := hr.2.1
  have hm := hr.2.2.1
  have hc' := hr'.2.1
  unfold maxLen at hm
  go_enter Tryz.func55, Tryz.ntmps55
  go_wp2_with fail
  go_loopw [5] (fun i wr => ∃ k : Nat, k ≤ n ∧ i = .int .i64 k ∧ Below w.heap.size w wr) (fun i _ => n - (intOf i).toNat)
  case atStart => exact ⟨0, Nat.zero_le _, rfl, Below.refl _ _⟩
  case round =>
    obtain ⟨k, hk, rfl, HB⟩ := hrel
    by_cases hlt : k < n
    · obtain ⟨b, off, rfl, hb, hcell⟩ := hr.elem encCertKey_len hn hlt
      obtain ⟨b', off', rfl, hb', hcell'⟩ := hr'.elem encCertKey_len hn hlt
      have hz := HB.size
      have c0 := HB.cell (p := ⟨b, off + k * 2 + 0, none⟩) hb |>.trans (hcell 0 _ rfl)
      have e0 := HB.cell (p := ⟨b', off' + k * 2 + 0, none⟩) hb' |>.trans (hcell' 0 _ rfl)
      have c1 := HB.cell (p := ⟨b, off + k * 2 + 1, none⟩) hb |>.trans (hcell 1 _ rfl)
      have e1 := HB.cell (p := ⟨b', off' + k * 2 + 1, none⟩) hb' |>.trans (hcell' 1 _ rfl)
      simp only [Nat.add_zero] at c0 e0
      clear hcell hcell'
      generalize us[k] = u at *
      have hk1 : (k : Int) < (n : Int) := by omega
      go_wp2_with fail
      go_region_with (go_at_call 97; refine (eqCertKey_any u _).mono ?_; rintro e w1 ⟨rfl, hb1⟩)
      all_goals
        go_wp2
        go_roundw
        case rel => exact ⟨k + 1, by omega, by go_num, blift HB.drew hb1 hz⟩
        case measure => simp [intOf]; omega
    · go_wp2_with fail
      go_ret
      exact ⟨rfl, HB⟩

def markCertKeyE (m i : Nat) : List Value := [.int .i64 ((m : Int) + (i : Int) * 2), .int .i64 ((m : Int) + (i : Int) * 2 + 1)]
theorem markCertKeyE_len (m : Nat) (i : Nat) : (markCertKeyE m i).length = 2 := rfl
def marksCertKey (m n : Nat) : List Value := (List.range n).flatMap (markCertKeyE m)
set_option maxHeartbeats 4000000 in
theorem markCertKeyS_any (A : Option Addr) (n c m lo hi : Nat) (xs : List Value) (w : World) (h : Own w lo hi 68 2 (.slice A n c) n xs) (h0 : 0 < m) (hm : m + n * 2 ≤ 1125899906842624) :
    Calls Tryz.prog 58 #[.slice A n c, .int .i64 m] w fun e w' => e = .returned (.int .i64 ((m + n * 2 : Nat) : Int)) ∧ Own w' lo hi 68 2 (.slice A n c) n (marksCertKey m n) ∧ Chg w w' lo hi := by
  have hr := h.rd
  have hc := hr.2.1
  have hmx := hr.2.2.1
  unfold maxLen at hmx
  clear hr
  go_enter Tryz.func58, Tryz.ntmps58
  go_wp2_with fail
  go_loopw [1, 5] (fun l i wr => ∃ k : Nat, k ≤ n ∧ i = .int .i64 k ∧ l = .int .i64 ((m + k * 2 : Nat) : Int) ∧ Chg w wr lo hi ∧ ∃ cs, Own wr lo hi 68 2 (.slice A n c) n cs ∧ Hid (cs.take (k * 2) = ((List.range n).take k).flatMap (markCertKeyE m))) (fun _ i _ => n - (intOf i).toNat)
  case atStart => exact ⟨0, Nat.zero_le _, rfl, by simp, Chg.refl _ _ _, xs, h, by show _ = _; simp⟩
  case round =>
    clear h
    obtain ⟨k, hk, rfl, rfl, HC, cs, own0, HT⟩ := hrel
    by_cases hlt : k < n
    · obtain ⟨g, rfl, hg1, hg2⟩ := own0.at_ (by omega)
      have HT' : Hid ((setL cs (k * 2) (markCertKeyE m k)).take ((k + 1) * 2) = ((List.range n).take (k + 1)).flatMap (markCertKeyE m)) := by
        have := take_flat (us := List.range n) (markCertKeyE_len m) (i := k) (by simpa using hlt) (by exact HT.out) (by rw [own0.1.1]; simp)
        rw [List.getElem_range] at this
        exact this
      have hkk : k * 2 + 2 ≤ n * 2 := by omega
      have HS : w.heap.size ≤ _ := HC.size
      -- field ser
      obtain ⟨v0, -, d0⟩ := own_cell own0.1 (j := k * 2 + 0) (by omega)
      have f0 := own0.1.frozenAt (k * 2 + 0)
      simp only [Nat.add_zero] at d0 f0
      have own1 := own0.set_in (j := k * 2) (.int .i64 ((m : Int) + (k : Int) * 2))
      have HC1 := HC.set (b := g) (o := k * 2) (.inl ⟨hg1, hg2⟩) (.int .i64 ((m : Int) + (k : Int) * 2))
      -- field key
      obtain ⟨v1, -, d1⟩ := own_cell own0.1 (j := k * 2 + 1) (by omega)
      have f1 := own0.1.frozenAt (k * 2 + 1)
      have own2 := own1.set_in (j := k * 2 + 1) (.int .i64 ((m : Int) + (k : Int) * 2 + 1))
      have HC2 := HC1.set (b := g) (o := k * 2 + 1) (.inl ⟨hg1, hg2⟩) (.int .i64 ((m : Int) + (k : Int) * 2 + 1))
      go_wp2
      go_roundw
      case rel => exact ⟨k + 1, by omega, by go_num, by go_num, HC2, _, own2, HT'⟩
      case measure => simp [intOf]; omega
    · have HF : Hid (cs = marksCertKey m n) := by
        have h2 := HT.out
        rw [show k = n by omega] at h2
        exact take_flat_end (us := List.range n) (by simp) (by exact h2) own0.1.1
      have HK : Hid (k = n) := by show _ = _; omega
      go_wp2_with fail
      go_ret
      exact ⟨by rw [← HK.out]; rfl, by rw [← HF.out]; exact own0, HC⟩

set_option maxHeartbeats 4000000 in
theorem heldCertKeyS_any (A : Option Addr) (n c m : Nat) (w : World) (hr : Rd w w.heap.size 2 A n c (marksCertKey m n)) (h0 : 0 < m) (hm : m + n * 2 ≤ 1125899906842624) :
    Calls Tryz.prog 61 #[.slice A n c, .int .i64 m] w fun e w' => e = .returned (.int .i64 ((m + n * 2 : Nat) : Int)) ∧ Below w.heap.size w w' := by
  have hc := hr.2.1
  have hmx := hr.2.2.1
  unfold maxLen at hmx
  go_enter Tryz.func61, Tryz.ntmps61
  go_wp2_with fail
  go_loopw [1, 5] (fun l i wr => ∃ k : Nat, k ≤ n ∧ i = .int .i64 k ∧ l = .int .i64 ((m + k * 2 : Nat) : Int) ∧ Below w.heap.size w wr) (fun _ i _ => n - (intOf i).toNat)
  case atStart => exact ⟨0, Nat.zero_le _, rfl, by simp, Below.refl _ _⟩
  case round =>
    obtain ⟨k, hk, rfl, rfl, HB⟩ := hrel
    by_cases hlt : k < n
    · obtain ⟨b, off, rfl, hb, hcell⟩ := Rd.elem (us := List.range n) hr (markCertKeyE_len m) (by simp) hlt
      rw [List.getElem_range] at hcell
      have hz := HB.size
      have hkk : k * 2 + 2 ≤ n * 2 := by omega
      have hk1 : (k : Int) < (n : Int) := by omega
      have hl0 : ∀ W, Below w.heap.size w W → W.cell? ⟨b, off + k * 2 + 0, none⟩ = some (.int .i64 ((m : Int) + (k : Int) * 2)) := fun W h => (h.cell (p := ⟨b, _, none⟩) hb).trans (hcell 0 _ rfl)
      have hl1 : ∀ W, Below w.heap.size w W → W.cell? ⟨b, off + k * 2 + 1, none⟩ = some (.int .i64 ((m : Int) + (k : Int) * 2 + 1)) := fun W h => (h.cell (p := ⟨b, _, none⟩) hb).trans (hcell 1 _ rfl)
      simp only [Nat.add_zero] at hl0
      clear hcell
      have x0 := hl0 _ HB
      have x1 := hl1 _ HB
      go_wp2
      go_roundw
      case rel => exact ⟨k + 1, by omega, by go_num, by go_num, HB⟩
      case measure => simp [intOf]; omega
    · have HK : Hid (k = n) := by show _ = _; omega
      go_wp2_with fail
      go_ret
      exact ⟨by rw [← HK.out]; rfl, HB⟩

end Go.Proofs.YtaaloiloklnbiaaGreatDoor
