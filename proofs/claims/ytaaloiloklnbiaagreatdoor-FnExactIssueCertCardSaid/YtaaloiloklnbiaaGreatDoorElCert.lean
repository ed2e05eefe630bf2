/- Elements Cert: data, and contracts of the statements' own helpers over them. No condition. -/
import Derived.Test.YtaaloiloklnbiaaGreatDoorMark
import Derived.Deep.QuietTactic
import Derived.BigQuiet
import Derived.Deep.RegionHeld3
namespace Go.Proofs.YtaaloiloklnbiaaGreatDoor
open Go.RowKit

structure Cert where
  ser : Int
  owner : ByteArray
  iss : Int
  from_ : Int
  to_ : Int
  ca : Bool
  depth : Int
  mark : Int
def encCert (x : Cert) : List Value := [.int .i64 x.ser, .string x.owner, .int .i64 x.iss, .int .i64 x.from_, .int .i64 x.to_, .bool x.ca, .int .i64 x.depth, .int .i64 x.mark]
theorem encCert_len (x : Cert) : (encCert x).length = 8 := rfl
def CertFits (x : Cert) : Prop := x.owner.size ≤ maxLen
theorem CertFits.owner {x : Cert} (h : CertFits x) : x.owner.size ≤ maxLen := h
def szCert (x : Cert) : Nat := x.owner.size
def sumCert (us : List Cert) : Nat := (us.map szCert).sum
theorem sumCert_take {us : List Cert} {k : Nat} (h : k < us.length) : sumCert (us.take (k + 1)) = sumCert (us.take k) + szCert us[k] := by
  rw [sumCert, sumCert, List.take_succ_eq_append_getElem h, List.map_append, List.sum_append, List.map_cons, List.map_nil, List.sum_cons, List.sum_nil, Nat.add_zero]
theorem sumCert_le (us : List Cert) (k : Nat) : sumCert (us.take k) ≤ sumCert us := by
  have h : sumCert us = sumCert (us.take k) + sumCert (us.drop k) := by rw [sumCert, sumCert, sumCert, ← List.sum_append, ← List.map_append, List.take_append_drop]
  omega

theorem Tryz.infoCert : (Tryz.prog.info? 30).map (fun i => (i.zero, i.size, i.bytes)) = some (some (.agg #[.int .i64 0, .string ByteArray.empty, .int .i64 0, .int .i64 0, .int .i64 0, .bool false, .int .i64 0, .int .i64 0]), 8, 72) := by kernel_rfl
theorem toCert_any (u : Cert) (w : World) :
    Calls Tryz.prog 17 #[.agg #[.int .i64 u.ser, .string u.owner, .int .i64 u.iss, .int .i64 u.from_, .int .i64 u.to_, .bool u.ca, .int .i64 u.depth, .int .i64 u.mark]] w fun e w' => e = .returned (.agg #[.int .i64 u.ser, .string u.owner, .int .i64 u.iss, .int .i64 u.from_, .int .i64 u.to_, .bool u.ca, .int .i64 u.depth, .int .i64 u.mark]) ∧ Below w.heap.size w w' := by
  go_enter Tryz.func17, Tryz.ntmps17
  go_wp2
  refine bodyPost_ret (v := .agg #[.int .i64 u.ser, .string u.owner, .int .i64 u.iss, .int .i64 u.from_, .int .i64 u.to_, .bool u.ca, .int .i64 u.depth, .int .i64 u.mark]) (by simp [results, Tryz.results17, go_sem]) rfl ⟨rfl, ?_⟩
  go_grown

theorem eqCert_any (u : Cert) (w : World) :
    Calls Tryz.prog 96 #[.agg #[.int .i64 u.ser, .string u.owner, .int .i64 u.iss, .int .i64 u.from_, .int .i64 u.to_, .bool u.ca, .int .i64 u.depth, .int .i64 u.mark], .agg #[.int .i64 u.ser, .string u.owner, .int .i64 u.iss, .int .i64 u.from_, .int .i64 u.to_, .bool u.ca, .int .i64 u.depth, .int .i64 u.mark]] w fun e w' => e = .returned (.bool true) ∧ Below w.heap.size w w' := by
  go_enter Tryz.func96, Tryz.ntmps96
  go_wp2
  go_ret
  refine ⟨rfl, ?_⟩
  go_grown

set_option maxHeartbeats 1000000 in
theorem szCert_any (u : Cert) (left : Int) (w : World) (h0 : 0 ≤ left) (h1 : left ≤ 1048576) (hf : CertFits u) :
    Calls Tryz.prog 15 #[.agg #[.int .i64 u.ser, .string u.owner, .int .i64 u.iss, .int .i64 u.from_, .int .i64 u.to_, .bool u.ca, .int .i64 u.depth, .int .i64 u.mark], .int .i64 left] w fun e w' => e = .returned (.int .i64 (leftOf left (szCert u))) ∧ Below w.heap.size w w' := by
  have HE : Hid (szCert u = u.owner.size) := rfl
  have q0 := hf.owner
  unfold maxLen at q0
  generalize u.owner = s0 at *
  by_cases c0 : left - (s0.size : Int) < 0
  · have HL : Hid (leftOf left (szCert u) = -1) := by have := HE.out; show _ = _; rw [leftOf, if_neg (by omega)]
    clear HE
    go_enter Tryz.func15, Tryz.ntmps15
    go_wp2
    go_ret
    exact ⟨by rw [HL.out]; rfl, (Below.refl _ _).alloc (Nat.le_refl _) _⟩
  have HL : Hid (leftOf left (szCert u) = left - (s0.size : Int)) := by have := HE.out; show _ = _; rw [leftOf, if_pos (by omega)]; omega
  clear HE
  go_enter Tryz.func15, Tryz.ntmps15
  go_wp2
  go_ret
  exact ⟨by rw [HL.out]; rfl, (Below.refl _ _).alloc (Nat.le_refl _) _⟩

set_option maxHeartbeats 1000000 in
theorem szCertS_any (A : Option Addr) (n c : Nat) (us : List Cert) (left : Int) (w : World) (hr : Rd w w.heap.size 8 A n c (us.flatMap encCert)) (hn : us.length = n) (h0 : 0 ≤ left) (h1 : left ≤ 1048576) (hf : ∀ u ∈ us, CertFits u) :
    Calls Tryz.prog 48 #[.slice A n c, .int .i64 left] w fun e w' => e = .returned (.int .i64 (leftOf left (n + sumCert us))) ∧ Below w.heap.size w w' := by
  have hc := hr.2.1
  have hm := hr.2.2.1
  unfold maxLen at hm
  by_cases c1 : left - (n : Int) < 0
  · go_enter Tryz.func48, Tryz.ntmps48
    go_wp2_with fail
    go_ret
    exact ⟨by rw [leftOf, if_neg (by omega)]; rfl, Below.refl _ _⟩
  · go_enter Tryz.func48, Tryz.ntmps48
    go_wp2_with fail
    go_loopw [1, 5] (fun l i wr => ∃ k : Nat, k ≤ n ∧ i = .int .i64 k ∧ ∃ m : Int, l = .int .i64 m ∧ 0 ≤ m ∧ m ≤ 1048576 ∧ Hid (m = left - n - sumCert (us.take k)) ∧ Below w.heap.size w wr) (fun _ i _ => n - (intOf i).toNat)
    case atStart => exact ⟨0, Nat.zero_le _, rfl, _, rfl, by omega, by omega, by show _ = _; simp [sumCert], Below.refl _ _⟩
    case round =>
      obtain ⟨k, hk, rfl, m, rfl, hm0, hm1, HM, HB⟩ := hrel
      by_cases hlt : k < n
      · obtain ⟨b, off, rfl, hb, hcell⟩ := hr.elem encCert_len hn hlt
        have c0 := HB.cell (p := ⟨b, off + k * 8 + 0, none⟩) hb |>.trans (hcell 0 _ rfl)
        have c1 := HB.cell (p := ⟨b, off + k * 8 + 1, none⟩) hb |>.trans (hcell 1 _ rfl)
        have c2 := HB.cell (p := ⟨b, off + k * 8 + 2, none⟩) hb |>.trans (hcell 2 _ rfl)
        have c3 := HB.cell (p := ⟨b, off + k * 8 + 3, none⟩) hb |>.trans (hcell 3 _ rfl)
        have c4 := HB.cell (p := ⟨b, off + k * 8 + 4, none⟩) hb |>.trans (hcell 4 _ rfl)
        have c5 := HB.cell (p := ⟨b, off + k * 8 + 5, none⟩) hb |>.trans (hcell 5 _ rfl)
        have c6 := HB.cell (p := ⟨b, off + k * 8 + 6, none⟩) hb |>.trans (hcell 6 _ rfl)
        have c7 := HB.cell (p := ⟨b, off + k * 8 + 7, none⟩) hb |>.trans (hcell 7 _ rfl)
        simp only [Nat.add_zero] at c0
        have hfk := hf us[k] (List.getElem_mem (by omega))
        have HS : Hid (sumCert (us.take (k + 1)) = sumCert (us.take k) + szCert us[k]) := sumCert_take (by omega)
        have HL : Hid (sumCert (us.take (k + 1)) ≤ sumCert us) := sumCert_le us (k + 1)
        have hz := HB.size
        clear hcell
        generalize us[k] = u at *
        go_wp2_with (go_at_call 15; refine (szCert_any u m _ hm0 hm1 hfk).mono ?_; rintro e w1 ⟨rfl, hb1⟩)
        · go_ret
          have hx : leftOf m (szCert u) < 0 := by assumption
          have HN : leftOf left (n + sumCert us) = -1 := by
            have := leftOf_neg hx; have := HM.out; have := HS.out; have := HL.out
            rw [leftOf, if_neg (by omega)]
          exact ⟨by rw [HN]; rfl, blift HB hb1 hz⟩
        · have hx : 0 ≤ leftOf m (szCert u) := by assumption
          have hx' := leftOf_nn hx
          go_roundw
          case rel => exact ⟨k + 1, by omega, by go_num, _, rfl, hx, by omega, by have := HM.out; have := HS.out; show _ = _; omega, blift HB hb1 hz⟩
          case measure => simp [intOf]; omega
      · have HF : Hid (m = leftOf left (n + sumCert us)) := by
          have h2 := HM.out
          rw [List.take_of_length_le (by omega)] at h2
          show _ = _
          rw [leftOf, if_pos (by omega)]; omega
        go_wp2_with fail
        go_ret
        exact ⟨by rw [← HF.out]; simp, HB⟩

set_option maxHeartbeats 1000000 in
theorem toCertS_any (A : Option Addr) (n c : Nat) (us : List Cert) (w : World) (hr : Rd w w.heap.size 8 A n c (us.flatMap encCert)) (hn : us.length = n) (hb20 : n ≤ 1048576) :
    Calls Tryz.prog 51 #[.slice A n c] w fun e w' => ∃ A' c', e = .returned (.slice A' n c') ∧ Own w' w.heap.size w'.heap.size 30 8 (.slice A' n c') n (us.flatMap encCert) ∧ Below w.heap.size w w' := by
  obtain ⟨i0, hi, hz0, hz1, hz2⟩ := info_parts Tryz.infoCert
  have hc := hr.2.1
  have hm := hr.2.2.1
  unfold maxLen at hm
  go_enter Tryz.func51, Tryz.ntmps51
  go_wp2_with (at_make; refine wpList_make_full _ rfl _ _ 24 rfl w.heap.size 30 i0 _ 8 Tryz.underlying24 hi hz0 hz1 _ _ _ _ n rfl rfl rfl rfl ?_ ?_ ?_ ?_; rotate_right; intro w1 hown hgrow)
  case refine_1 => rw [hz2]; omega
  case refine_2 => unfold maxLen; omega
  case refine_3 => exact Nat.le_refl _
  have HB1 : Below w.heap.size w w1 := (Below.refl _ _).grown hgrow (Nat.le_refl _) (fun k hk => by cases hk)
  generalize (madeCells (Value.cells (.agg #[.int .i64 0, .string ByteArray.empty, .int .i64 0, .int .i64 0, .int .i64 0, .bool false, .int .i64 0, .int .i64 0])) (n * 8)).toList = cs0 at *
  clear hgrow
  go_loopw [4] (fun i wr => ∃ k : Nat, k ≤ n ∧ i = .int .i64 k ∧ Below w.heap.size w wr ∧ ∃ cs, wr.ownsRow w.heap.size 30 8 (.slice (some ⟨w.heap.size, 0, none⟩) n n) n cs ∧ Hid (cs.take (k * 8) = (us.take k).flatMap encCert)) (fun i _ => n - (intOf i).toNat)
  case atStart => exact ⟨0, Nat.zero_le _, rfl, HB1, cs0, hown, by show _ = _; simp⟩
  case round =>
    clear HB1 hown
    obtain ⟨k, hk, rfl, HB, cs, hown, HC⟩ := hrel
    by_cases hlt : k < n
    · obtain ⟨b, off, rfl, hb, hcell⟩ := hr.elem encCert_len hn hlt
      have c0 := HB.cell (p := ⟨b, off + k * 8 + 0, none⟩) (by omega) |>.trans (hcell 0 _ rfl)
      have c1 := HB.cell (p := ⟨b, off + k * 8 + 1, none⟩) (by omega) |>.trans (hcell 1 _ rfl)
      have c2 := HB.cell (p := ⟨b, off + k * 8 + 2, none⟩) (by omega) |>.trans (hcell 2 _ rfl)
      have c3 := HB.cell (p := ⟨b, off + k * 8 + 3, none⟩) (by omega) |>.trans (hcell 3 _ rfl)
      have c4 := HB.cell (p := ⟨b, off + k * 8 + 4, none⟩) (by omega) |>.trans (hcell 4 _ rfl)
      have c5 := HB.cell (p := ⟨b, off + k * 8 + 5, none⟩) (by omega) |>.trans (hcell 5 _ rfl)
      have c6 := HB.cell (p := ⟨b, off + k * 8 + 6, none⟩) (by omega) |>.trans (hcell 6 _ rfl)
      have c7 := HB.cell (p := ⟨b, off + k * 8 + 7, none⟩) (by omega) |>.trans (hcell 7 _ rfl)
      simp only [Nat.add_zero] at c0
      have hz := HB.size
      have HT : Hid ((setL cs (k * 8) (encCert us[k])).take ((k + 1) * 8) = (us.take (k + 1)).flatMap encCert) := take_flat encCert_len (by omega) HC.out (by rw [hown.1, hn])
      clear hcell
      generalize us[k] = u at *
      go_wp2_with (go_at_call 17; refine (toCert_any u _).mono ?_; rintro e w1 ⟨rfl, hb1⟩; have hown1 := own_grow hown hb1; obtain ⟨v0, hv0, d0⟩ := own_cell hown1 (j := k * 8 + 0) (by omega); have f0 := hown1.frozenAt (k * 8 + 0); obtain ⟨v1, hv1, d1⟩ := own_cell hown1 (j := k * 8 + 1) (by omega); have f1 := hown1.frozenAt (k * 8 + 1); obtain ⟨v2, hv2, d2⟩ := own_cell hown1 (j := k * 8 + 2) (by omega); have f2 := hown1.frozenAt (k * 8 + 2); obtain ⟨v3, hv3, d3⟩ := own_cell hown1 (j := k * 8 + 3) (by omega); have f3 := hown1.frozenAt (k * 8 + 3); obtain ⟨v4, hv4, d4⟩ := own_cell hown1 (j := k * 8 + 4) (by omega); have f4 := hown1.frozenAt (k * 8 + 4); obtain ⟨v5, hv5, d5⟩ := own_cell hown1 (j := k * 8 + 5) (by omega); have f5 := hown1.frozenAt (k * 8 + 5); obtain ⟨v6, hv6, d6⟩ := own_cell hown1 (j := k * 8 + 6) (by omega); have f6 := hown1.frozenAt (k * 8 + 6); obtain ⟨v7, hv7, d7⟩ := own_cell hown1 (j := k * 8 + 7) (by omega); have f7 := hown1.frozenAt (k * 8 + 7); simp only [Nat.add_zero] at d0 f0)
      go_roundw
      case rel => exact ⟨k + 1, by omega, by go_num, (((((((((blift HB hb1 hz).setCell (by simp) _).setCell (by simp) _).setCell (by simp) _).setCell (by simp) _).setCell (by simp) _).setCell (by simp) _).setCell (by simp) _).setCell (by simp) _), _, ((((((((hown1.stored (k * 8) (.int .i64 u.ser)).1.stored (k * 8 + 1) (.string u.owner)).1.stored (k * 8 + 2) (.int .i64 u.iss)).1.stored (k * 8 + 3) (.int .i64 u.from_)).1.stored (k * 8 + 4) (.int .i64 u.to_)).1.stored (k * 8 + 5) (.bool u.ca)).1.stored (k * 8 + 6) (.int .i64 u.depth)).1.stored (k * 8 + 7) (.int .i64 u.mark)).1, HT⟩
      case measure => simp [intOf]; omega
    · have HF : Hid (cs = us.flatMap encCert) := by
        have h2 := HC.out
        rw [show k = n by omega] at h2
        exact take_flat_end hn h2 hown.1
      go_wp2_with fail
      go_ret
      exact ⟨_, _, rfl, Own.of (by rw [← HF.out]; exact hown), HB⟩

set_option maxHeartbeats 2000000 in
theorem eqCertS_any (A A' : Option Addr) (n c c' : Nat) (us : List Cert) (w : World) (hr : Rd w w.heap.size 8 A n c (us.flatMap encCert)) (hr' : Rd w w.heap.size 8 A' n c' (us.flatMap encCert)) (hn : us.length = n) :
    Calls Tryz.prog 54 #[.slice A n c, .slice A' n c'] w fun e w' => e = .returned (.bool true) ∧ Below w.heap.size w w' := by
  have hc := hr.2.1
  have hm := hr.2.2.1
  have hc' := hr'.2.1
  unfold maxLen at hm
  go_enter Tryz.func54, Tryz.ntmps54
  go_wp2_with fail
  go_loopw [5] (fun i wr => ∃ k : Nat, k ≤ n ∧ i = .int .i64 k ∧ Below w.heap.size w wr) (fun i _ => n - (intOf i).toNat)
  case atStart => exact ⟨0, Nat.zero_le _, rfl, Below.refl _ _⟩
  case round =>
    obtain ⟨k, hk, rfl, HB⟩ := hrel
    by_cases hlt : k < n
    · obtain ⟨b, off, rfl, hb, hcell⟩ := hr.elem encCert_len hn hlt
      obtain ⟨b', off', rfl, hb', hcell'⟩ := hr'.elem encCert_len hn hlt
      have hz := HB.size
      have c0 := HB.cell (p := ⟨b, off + k * 8 + 0, none⟩) hb |>.trans (hcell 0 _ rfl)
      have e0 := HB.cell (p := ⟨b', off' + k * 8 + 0, none⟩) hb' |>.trans (hcell' 0 _ rfl)
      have c1 := HB.cell (p := ⟨b, off + k * 8 + 1, none⟩) hb |>.trans (hcell 1 _ rfl)
      have e1 := HB.cell (p := ⟨b', off' + k * 8 + 1, none⟩) hb' |>.trans (hcell' 1 _ rfl)
      have c2 := HB.cell (p := ⟨b, off + k * 8 + 2, none⟩) hb |>.trans (hcell 2 _ rfl)
      have e2 := HB.cell (p := ⟨b', off' + k * 8 + 2, none⟩) hb' |>.trans (hcell' 2 _ rfl)
      have c3 := HB.cell (p := ⟨b, off + k * 8 + 3, none⟩) hb |>.trans (hcell 3 _ rfl)
      have e3 := HB.cell (p := ⟨b', off' + k * 8 + 3, none⟩) hb' |>.trans (hcell' 3 _ rfl)
      have c4 := HB.cell (p := ⟨b, off + k * 8 + 4, none⟩) hb |>.trans (hcell 4 _ rfl)
      have e4 := HB.cell (p := ⟨b', off' + k * 8 + 4, none⟩) hb' |>.trans (hcell' 4 _ rfl)
      have c5 := HB.cell (p := ⟨b, off + k * 8 + 5, none⟩) hb |>.trans (hcell 5 _ rfl)
      have e5 := HB.cell (p := ⟨b', off' + k * 8 + 5, none⟩) hb' |>.trans (hcell' 5 _ rfl)
      have c6 := HB.cell (p := ⟨b, off + k * 8 + 6, none⟩) hb |>.trans (hcell 6 _ rfl)
      have e6 := HB.cell (p := ⟨b', off' + k * 8 + 6, none⟩) hb' |>.trans (hcell' 6 _ rfl)
      have c7 := HB.cell (p := ⟨b, off + k * 8 + 7, none⟩) hb |>.trans (hcell 7 _ rfl)
      have e7 := HB.cell (p := ⟨b', off' + k * 8 + 7, none⟩) hb' |>.trans (hcell' 7 _ rfl)
      simp only [Nat.add_zero] at c0 e0
      clear hcell hcell'
      generalize us[k] = u at *
      have hk1 : (k : Int) < (n : Int) := by omega
      go_wp2_with fail
      go_region_with (go_at_call 96; refine (eqCert_any u _).mono ?_; rintro e w1 ⟨rfl, hb1⟩)
      all_goals
        go_wp2
        go_roundw
        case rel => exact ⟨k + 1, by omega, by go_num, blift HB.drew hb1 hz⟩
        case measure => simp [intOf]; omega
    · go_wp2_with fail
      go_ret
      exact ⟨rfl, HB⟩

def markCertE (m i : Nat) : List Value := [.int .i64 ((m : Int) + (i : Int) * 8), .string (mkText (m + i * 8 + 1)), .int .i64 ((m : Int) + (i : Int) * 8 + 2), .int .i64 ((m : Int) + (i : Int) * 8 + 3), .int .i64 ((m : Int) + (i : Int) * 8 + 4), .bool (((m : Int) + (i : Int) * 8 + 1 + 1 + 1 + 1 + 1) % 3 == 0), .int .i64 ((m : Int) + (i : Int) * 8 + 6), .int .i64 ((m : Int) + (i : Int) * 8 + 7)]
theorem markCertE_len (m : Nat) (i : Nat) : (markCertE m i).length = 8 := rfl
def marksCert (m n : Nat) : List Value := (List.range n).flatMap (markCertE m)
set_option maxHeartbeats 16000000 in
set_option maxRecDepth 100000 in
theorem markCertS_any (A : Option Addr) (n c m lo hi : Nat) (xs : List Value) (w : World) (h : Own w lo hi 30 8 (.slice A n c) n xs) (h0 : 0 < m) (hm : m + n * 8 ≤ 1125899906842624) :
    Calls Tryz.prog 57 #[.slice A n c, .int .i64 m] w fun e w' => e = .returned (.int .i64 ((m + n * 8 : Nat) : Int)) ∧ Own w' lo hi 30 8 (.slice A n c) n (marksCert m n) ∧ Chg w w' lo hi := by
  have hr := h.rd
  have hc := hr.2.1
  have hmx := hr.2.2.1
  unfold maxLen at hmx
  clear hr
  go_enter Tryz.func57, Tryz.ntmps57
  go_wp2_with fail
  go_loopw [1, 5] (fun l i wr => ∃ k : Nat, k ≤ n ∧ i = .int .i64 k ∧ l = .int .i64 ((m + k * 8 : Nat) : Int) ∧ Chg w wr lo hi ∧ ∃ cs, Own wr lo hi 30 8 (.slice A n c) n cs ∧ Hid (cs.take (k * 8) = ((List.range n).take k).flatMap (markCertE m))) (fun _ i _ => n - (intOf i).toNat)
  case atStart => exact ⟨0, Nat.zero_le _, rfl, by simp, Chg.refl _ _ _, xs, h, by show _ = _; simp⟩
  case round =>
    clear h
    obtain ⟨k, hk, rfl, rfl, HC, cs, own0, HT⟩ := hrel
    by_cases hlt : k < n
    · obtain ⟨g, rfl, hg1, hg2⟩ := own0.at_ (by omega)
      have HT' : Hid ((setL cs (k * 8) (markCertE m k)).take ((k + 1) * 8) = ((List.range n).take (k + 1)).flatMap (markCertE m)) := by
        have := take_flat (us := List.range n) (markCertE_len m) (i := k) (by simpa using hlt) (by exact HT.out) (by rw [own0.1.1]; simp)
        rw [List.getElem_range] at this
        exact this
      have hkk : k * 8 + 8 ≤ n * 8 := by omega
      have HS : w.heap.size ≤ _ := HC.size
      -- field ser
      obtain ⟨v0, -, d0⟩ := own_cell own0.1 (j := k * 8 + 0) (by omega)
      have f0 := own0.1.frozenAt (k * 8 + 0)
      simp only [Nat.add_zero] at d0 f0
      have own1 := own0.set_in (j := k * 8) (.int .i64 ((m : Int) + (k : Int) * 8))
      have HC1 := HC.set (b := g) (o := k * 8) (.inl ⟨hg1, hg2⟩) (.int .i64 ((m : Int) + (k : Int) * 8))
      -- field owner
      go_wp2_with fail
      refine (markText_any _ _ (by omega) (by omega)).mono ?_
      rintro e w1 ⟨rfl, hb1⟩
      have own1' := own1.grow' hb1
      have HC1' := HC1.grow hb1
      have ht1 : ((m : Int) + (k : Int) * 8 + 1).toNat = m + k * 8 + 1 := by omega
      rw [ht1]; clear ht1
      obtain ⟨v1, -, d1⟩ := own_cell own1'.1 (j := k * 8 + 1) (by omega)
      have f1 := own1'.1.frozenAt (k * 8 + 1)
      have own2 := own1'.set_in (j := k * 8 + 1) (.string (mkText (m + k * 8 + 1)))
      have HC2 := HC1'.set (b := g) (o := k * 8 + 1) (.inl ⟨hg1, hg2⟩) (.string (mkText (m + k * 8 + 1)))
      -- field iss
      obtain ⟨v2, -, d2⟩ := own_cell own1'.1 (j := k * 8 + 2) (by omega)
      have f2 := own1'.1.frozenAt (k * 8 + 2)
      have own3 := own2.set_in (j := k * 8 + 2) (.int .i64 ((m : Int) + (k : Int) * 8 + 2))
      have HC3 := HC2.set (b := g) (o := k * 8 + 2) (.inl ⟨hg1, hg2⟩) (.int .i64 ((m : Int) + (k : Int) * 8 + 2))
      -- field from_
      obtain ⟨v3, -, d3⟩ := own_cell own1'.1 (j := k * 8 + 3) (by omega)
      have f3 := own1'.1.frozenAt (k * 8 + 3)
      have own4 := own3.set_in (j := k * 8 + 3) (.int .i64 ((m : Int) + (k : Int) * 8 + 3))
      have HC4 := HC3.set (b := g) (o := k * 8 + 3) (.inl ⟨hg1, hg2⟩) (.int .i64 ((m : Int) + (k : Int) * 8 + 3))
      -- field to_
      obtain ⟨v4, -, d4⟩ := own_cell own1'.1 (j := k * 8 + 4) (by omega)
      have f4 := own1'.1.frozenAt (k * 8 + 4)
      have own5 := own4.set_in (j := k * 8 + 4) (.int .i64 ((m : Int) + (k : Int) * 8 + 4))
      have HC5 := HC4.set (b := g) (o := k * 8 + 4) (.inl ⟨hg1, hg2⟩) (.int .i64 ((m : Int) + (k : Int) * 8 + 4))
      -- field ca
      obtain ⟨v5, -, d5⟩ := own_cell own1'.1 (j := k * 8 + 5) (by omega)
      have f5 := own1'.1.frozenAt (k * 8 + 5)
      have own6 := own5.set_in (j := k * 8 + 5) (.bool (((m : Int) + (k : Int) * 8 + 1 + 1 + 1 + 1 + 1) % 3 == 0))
      have HC6 := HC5.set (b := g) (o := k * 8 + 5) (.inl ⟨hg1, hg2⟩) (.bool (((m : Int) + (k : Int) * 8 + 1 + 1 + 1 + 1 + 1) % 3 == 0))
      -- field depth
      obtain ⟨v6, -, d6⟩ := own_cell own1'.1 (j := k * 8 + 6) (by omega)
      have f6 := own1'.1.frozenAt (k * 8 + 6)
      have own7 := own6.set_in (j := k * 8 + 6) (.int .i64 ((m : Int) + (k : Int) * 8 + 6))
      have HC7 := HC6.set (b := g) (o := k * 8 + 6) (.inl ⟨hg1, hg2⟩) (.int .i64 ((m : Int) + (k : Int) * 8 + 6))
      -- field mark
      obtain ⟨v7, -, d7⟩ := own_cell own1'.1 (j := k * 8 + 7) (by omega)
      have f7 := own1'.1.frozenAt (k * 8 + 7)
      have own8 := own7.set_in (j := k * 8 + 7) (.int .i64 ((m : Int) + (k : Int) * 8 + 7))
      have HC8 := HC7.set (b := g) (o := k * 8 + 7) (.inl ⟨hg1, hg2⟩) (.int .i64 ((m : Int) + (k : Int) * 8 + 7))
      go_wp2
      go_roundw
      case rel => exact ⟨k + 1, by omega, by go_num, by go_num, HC8, _, own8, HT'⟩
      case measure => simp [intOf]; omega
    · have HF : Hid (cs = marksCert m n) := by
        have h2 := HT.out
        rw [show k = n by omega] at h2
        exact take_flat_end (us := List.range n) (by simp) (by exact h2) own0.1.1
      have HK : Hid (k = n) := by show _ = _; omega
      go_wp2_with fail
      go_ret
      exact ⟨by rw [← HK.out]; rfl, by rw [← HF.out]; exact own0, HC⟩

set_option maxHeartbeats 16000000 in
set_option maxRecDepth 100000 in
theorem heldCertS_any (A : Option Addr) (n c m : Nat) (w : World) (hr : Rd w w.heap.size 8 A n c (marksCert m n)) (h0 : 0 < m) (hm : m + n * 8 ≤ 1125899906842624) :
    Calls Tryz.prog 60 #[.slice A n c, .int .i64 m] w fun e w' => e = .returned (.int .i64 ((m + n * 8 : Nat) : Int)) ∧ Below w.heap.size w w' := by
  have hc := hr.2.1
  have hmx := hr.2.2.1
  unfold maxLen at hmx
  go_enter Tryz.func60, Tryz.ntmps60
  go_wp2_with fail
  go_loopw [1, 5] (fun l i wr => ∃ k : Nat, k ≤ n ∧ i = .int .i64 k ∧ l = .int .i64 ((m + k * 8 : Nat) : Int) ∧ Below w.heap.size w wr) (fun _ i _ => n - (intOf i).toNat)
  case atStart => exact ⟨0, Nat.zero_le _, rfl, by simp, Below.refl _ _⟩
  case round =>
    obtain ⟨k, hk, rfl, rfl, HB⟩ := hrel
    by_cases hlt : k < n
    · obtain ⟨b, off, rfl, hb, hcell⟩ := Rd.elem (us := List.range n) hr (markCertE_len m) (by simp) hlt
      rw [List.getElem_range] at hcell
      have hz := HB.size
      have hkk : k * 8 + 8 ≤ n * 8 := by omega
      have hk1 : (k : Int) < (n : Int) := by omega
      have hl0 : ∀ W, Below w.heap.size w W → W.cell? ⟨b, off + k * 8 + 0, none⟩ = some (.int .i64 ((m : Int) + (k : Int) * 8)) := fun W h => (h.cell (p := ⟨b, _, none⟩) hb).trans (hcell 0 _ rfl)
      have hl1 : ∀ W, Below w.heap.size w W → W.cell? ⟨b, off + k * 8 + 1, none⟩ = some (.string (mkText (m + k * 8 + 1))) := fun W h => (h.cell (p := ⟨b, _, none⟩) hb).trans (hcell 1 _ rfl)
      have hl2 : ∀ W, Below w.heap.size w W → W.cell? ⟨b, off + k * 8 + 2, none⟩ = some (.int .i64 ((m : Int) + (k : Int) * 8 + 2)) := fun W h => (h.cell (p := ⟨b, _, none⟩) hb).trans (hcell 2 _ rfl)
      have hl3 : ∀ W, Below w.heap.size w W → W.cell? ⟨b, off + k * 8 + 3, none⟩ = some (.int .i64 ((m : Int) + (k : Int) * 8 + 3)) := fun W h => (h.cell (p := ⟨b, _, none⟩) hb).trans (hcell 3 _ rfl)
      have hl4 : ∀ W, Below w.heap.size w W → W.cell? ⟨b, off + k * 8 + 4, none⟩ = some (.int .i64 ((m : Int) + (k : Int) * 8 + 4)) := fun W h => (h.cell (p := ⟨b, _, none⟩) hb).trans (hcell 4 _ rfl)
      have hl5 : ∀ W, Below w.heap.size w W → W.cell? ⟨b, off + k * 8 + 5, none⟩ = some (.bool (((m : Int) + (k : Int) * 8 + 1 + 1 + 1 + 1 + 1) % 3 == 0)) := fun W h => (h.cell (p := ⟨b, _, none⟩) hb).trans (hcell 5 _ rfl)
      have hl6 : ∀ W, Below w.heap.size w W → W.cell? ⟨b, off + k * 8 + 6, none⟩ = some (.int .i64 ((m : Int) + (k : Int) * 8 + 6)) := fun W h => (h.cell (p := ⟨b, _, none⟩) hb).trans (hcell 6 _ rfl)
      have hl7 : ∀ W, Below w.heap.size w W → W.cell? ⟨b, off + k * 8 + 7, none⟩ = some (.int .i64 ((m : Int) + (k : Int) * 8 + 7)) := fun W h => (h.cell (p := ⟨b, _, none⟩) hb).trans (hcell 7 _ rfl)
      simp only [Nat.add_zero] at hl0
      clear hcell
      have x0 := hl0 _ HB
      have x1 := hl1 _ HB
      go_wp2_with fail
      have ht1 : ((m : Int) + (k : Int) * 8 + 1).toNat = m + k * 8 + 1 := by omega
      have HT1 := Lib.hid ht1; clear ht1
      go_region_with (go_at_call 98; refine (markText_any _ _ (by omega) (by omega)).mono ?_; rintro e w1 ⟨rfl, hb1⟩; rw [HT1.out]; have y1 := hl1 _ (blift HB.drew hb1 (by exact HB.size)))
      all_goals
        have HB1 := blift HB.drew hb1 (by exact HB.size)
        have x2 := hl2 _ HB1
        have x3 := hl3 _ HB1
        have x4 := hl4 _ HB1
        have x5 := hl5 _ HB1
        have x6 := hl6 _ HB1
        have x7 := hl7 _ HB1
        go_wp2
        go_roundw
        case rel => exact ⟨k + 1, by omega, by go_num, by go_num, HB1⟩
        case measure => simp [intOf]; omega
    · have HK : Hid (k = n) := by show _ = _; omega
      go_wp2_with fail
      go_ret
      exact ⟨by rw [← HK.out]; rfl, HB⟩

end Go.Proofs.YtaaloiloklnbiaaGreatDoor
