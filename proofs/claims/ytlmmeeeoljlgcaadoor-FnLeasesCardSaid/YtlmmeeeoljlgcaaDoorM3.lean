/- The statements' marks: markText. No condition. -/
import Derived.Test.YtlmmeeeoljlgcaaDoorM2
import Derived.Test.YtlmmeeeoljlgcaaDoorM1
import Derived.Deep.QuietTactic
import Derived.BigQuiet
import Derived.Deep.RegionHeld3
import Derived.Deep.LoopGhost
import Derived.Shelf.Abstract
import Derived.WalkSpells
set_option linter.unusedVariables false
set_option linter.unusedSimpArgs false
namespace Go.Proofs.YtlmmeeeoljlgcaaDoor
open Go.RowKit

/-- The last f decimal digits of a number, none for 0. -/
def dg : Nat → Nat → List UInt8
  | 0, _ => []
  | f + 1, n => if n = 0 then [] else dg f (n / 10) ++ [UInt8.ofNat (48 + n % 10)]
theorem dg_zero (f : Nat) : dg f 0 = [] := by cases f <;> simp [dg]
theorem dg_step {f n : Nat} (hn : 0 < n) (hf : n < 10 ^ f) : ∃ g, f = g + 1 ∧ n / 10 < 10 ^ g ∧ dg f n = dg g (n / 10) ++ [UInt8.ofNat (48 + n % 10)] := by
  cases f with
  | zero => simp at hf; omega
  | succ g => exact ⟨g, rfl, by rw [Nat.pow_succ] at hf; omega, by rw [dg, if_neg (by omega)]⟩
def mkText (x : Nat) : ByteArray := ⟨(109 :: dg 20 x).toArray⟩

set_option maxHeartbeats 1000000 in
set_option maxRecDepth 100000 in
theorem markText_any (x : Int) (w : World) (h0 : 0 < x) (h1 : x ≤ 1125899906842624) :
    Calls Tryd.prog 34 #[.int .i64 x] w fun e w' => e = .returned (.string (mkText x.toNat)) ∧ Below w.heap.size w w' := by
  go_enter Tryd.func34, Tryd.ntmps34
  go_wp2_with fail
  go_loopw [0, 3] (fun k o wr => ∃ (m f : Nat) (t : List UInt8), k = .int .i64 m ∧ o = .string ⟨t.toArray⟩ ∧ m ≤ 1125899906842624 ∧ Hid (m < 10 ^ f) ∧ t.length ≤ 20 ∧ Hid (f + t.length = 20) ∧ Hid (dg f m ++ t = dg 20 x.toNat) ∧ Below w.heap.size w wr) (fun k _ _ => (intOf k).toNat)
  case atStart => exact ⟨x.toNat, 20, [], by rw [Int.toNat_of_nonneg (by omega)], rfl, by omega, by show _ < _; omega, by simp, rfl, by show _ = _; simp, Below.refl _ _⟩
  case round =>
    obtain ⟨m, f, t, rfl, rfl, hm, HF, ht, HL, HD, HB⟩ := hrel
    by_cases hlt : 0 < m
    · have hcv : (convert 37 9 (.slice (some ⟨wr.heap.size, 0, none⟩) 1 1)).run Tryd.prog (wr.alloc (.cells #[.int .u8 (48 + (m : Int) % 10)] 5)) = .ok (.string ⟨[UInt8.ofNat (48 + m % 10)].toArray⟩) (wr.alloc (.cells #[.int .u8 (48 + (m : Int) % 10)] 5)) := by
        have h := run_convert_bytes_back (P := Tryd.prog) (wr.alloc (.cells #[.int .u8 (48 + (m : Int) % 10)] 5)) 37 9 5 ⟨wr.heap.size, 0, none⟩ 1 [UInt8.ofNat (48 + m % 10)] Tryd.underlying37 Tryd.underlying5 Tryd.underlying9 (fun j hj => by
          obtain rfl : j = 0 := by simpa using hj
          have hmod : (48 + m % 10) % 256 = 48 + m % 10 := by omega
          simp [go_sem, Addr.add, UInt8.toNat_ofNat', hmod])
        exact h
      obtain ⟨g, hg, hgl, hgd⟩ := dg_step hlt HF.out
      have HG : Hid (g + (UInt8.ofNat (48 + m % 10) :: t).length = 20) := by show _ = _; have := HL.out; simp; omega
      have HG2 : Hid (m / 10 < 10 ^ g) := hgl
      have HG3 : Hid (dg g (m / 10) ++ (UInt8.ofNat (48 + m % 10) :: t) = dg 20 x.toNat) := by show _ = _; rw [← HD.out, hgd]; simp
      have HG4 : Hid ((UInt8.ofNat (48 + m % 10) :: t).length ≤ 20) := by show _ ≤ _; have := HL.out; simp; omega
      clear hg hgl hgd
      go_wp2
      go_roundw
      case rel => exact ⟨m / 10, g, UInt8.ofNat (48 + m % 10) :: t, by go_num, congrArg Value.string (ByteArray.ext (by simp)), by omega, HG2, HG4.out, HG, HG3, HB.alloc HB.size _⟩
      case measure => simp [intOf]; omega
    · have HM : Hid (mkText x.toNat = ⟨[109].toArray⟩ ++ ⟨t.toArray⟩) := by
        show _ = _
        have := HD.out
        rw [show m = 0 by omega, dg_zero] at this
        rw [mkText, ← this]
        rfl
      go_wp2
      go_ret
      exact ⟨by rw [HM.out]; rfl, HB⟩
end Go.Proofs.YtlmmeeeoljlgcaaDoor
namespace Go.Proofs.YtlmmeeeoljlgcaaDoor
open Go.RowKit

structure Lease where
  id : Int
  token : Int
  path : ByteArray
  made : Int
  ends : Int
  limit : Int
def encLease (x : Lease) : List Value := [.int .i64 x.id, .int .i64 x.token, .string x.path, .int .i64 x.made, .int .i64 x.ends, .int .i64 x.limit]
theorem encLease_len (x : Lease) : (encLease x).length = 6 := rfl
def LeaseFits (x : Lease) : Prop := x.path.size ≤ maxLen
theorem LeaseFits.path {x : Lease} (h : LeaseFits x) : x.path.size ≤ maxLen := h
def szLease (x : Lease) : Nat := x.path.size
def sumLease (us : List Lease) : Nat := (us.map szLease).sum
theorem sumLease_take {us : List Lease} {k : Nat} (h : k < us.length) : sumLease (us.take (k + 1)) = sumLease (us.take k) + szLease us[k] := by
  rw [sumLease, sumLease, List.take_succ_eq_append_getElem h, List.map_append, List.sum_append, List.map_cons, List.map_nil, List.sum_cons, List.sum_nil, Nat.add_zero]
theorem sumLease_le (us : List Lease) (k : Nat) : sumLease (us.take k) ≤ sumLease us := by
  have h : sumLease us = sumLease (us.take k) + sumLease (us.drop k) := by rw [sumLease, sumLease, sumLease, ← List.sum_append, ← List.map_append, List.take_append_drop]
  omega

theorem Tryd.infoLease : (Tryd.prog.info? 40).map (fun i => (i.zero, i.size, i.bytes)) = some (some (.agg #[.int .i64 0, .int .i64 0, .string ByteArray.empty, .int .i64 0, .int .i64 0, .int .i64 0]), 6, 56) := by kernel_rfl
theorem toLease_any (u : Lease) (w : World) :
    Calls Tryd.prog 55 #[.agg #[.int .i64 u.id, .int .i64 u.token, .string u.path, .int .i64 u.made, .int .i64 u.ends, .int .i64 u.limit]] w fun e w' => e = .returned (.agg #[.int .i64 u.id, .int .i64 u.token, .string u.path, .int .i64 u.made, .int .i64 u.ends, .int .i64 u.limit]) ∧ Below w.heap.size w w' := by
  go_enter Tryd.func55, Tryd.ntmps55
  go_wp2
  refine bodyPost_ret (v := .agg #[.int .i64 u.id, .int .i64 u.token, .string u.path, .int .i64 u.made, .int .i64 u.ends, .int .i64 u.limit]) (by simp [results, Tryd.results55, go_sem]) rfl ⟨rfl, ?_⟩
  go_grown

theorem eqLease_any (u : Lease) (w : World) :
    Calls Tryd.prog 33 #[.agg #[.int .i64 u.id, .int .i64 u.token, .string u.path, .int .i64 u.made, .int .i64 u.ends, .int .i64 u.limit], .agg #[.int .i64 u.id, .int .i64 u.token, .string u.path, .int .i64 u.made, .int .i64 u.ends, .int .i64 u.limit]] w fun e w' => e = .returned (.bool true) ∧ Below w.heap.size w w' := by
  go_enter Tryd.func33, Tryd.ntmps33
  go_wp2
  go_ret
  refine ⟨rfl, ?_⟩
  go_grown

set_option maxHeartbeats 1000000 in
theorem szLease_any (u : Lease) (left : Int) (w : World) (h0 : 0 ≤ left) (h1 : left ≤ 1048576) (hf : LeaseFits u) :
    Calls Tryd.prog 53 #[.agg #[.int .i64 u.id, .int .i64 u.token, .string u.path, .int .i64 u.made, .int .i64 u.ends, .int .i64 u.limit], .int .i64 left] w fun e w' => e = .returned (.int .i64 (leftOf left (szLease u))) ∧ Below w.heap.size w w' := by
  have HE : Hid (szLease u = u.path.size) := rfl
  have q0 := hf.path
  unfold maxLen at q0
  generalize u.path = s0 at *
  by_cases c0 : left - (s0.size : Int) < 0
  · have HL : Hid (leftOf left (szLease u) = -1) := by have := HE.out; show _ = _; rw [leftOf, if_neg (by omega)]
    clear HE
    go_enter Tryd.func53, Tryd.ntmps53
    go_wp2
    go_ret
    exact ⟨by rw [HL.out]; rfl, (Below.refl _ _).alloc (Nat.le_refl _) _⟩
  have HL : Hid (leftOf left (szLease u) = left - (s0.size : Int)) := by have := HE.out; show _ = _; rw [leftOf, if_pos (by omega)]; omega
  clear HE
  go_enter Tryd.func53, Tryd.ntmps53
  go_wp2
  go_ret
  exact ⟨by rw [HL.out]; rfl, (Below.refl _ _).alloc (Nat.le_refl _) _⟩

set_option maxHeartbeats 1000000 in
theorem szLeaseS_any (A : Option Addr) (n c : Nat) (us : List Lease) (left : Int) (w : World) (hr : Rd w w.heap.size 6 A n c (us.flatMap encLease)) (hn : us.length = n) (h0 : 0 ≤ left) (h1 : left ≤ 1048576) (hf : ∀ u ∈ us, LeaseFits u) :
    Calls Tryd.prog 26 #[.slice A n c, .int .i64 left] w fun e w' => e = .returned (.int .i64 (leftOf left (n + sumLease us))) ∧ Below w.heap.size w w' := by
  have hc := hr.2.1
  have hm := hr.2.2.1
  unfold maxLen at hm
  by_cases c1 : left - (n : Int) < 0
  · go_enter Tryd.func26, Tryd.ntmps26
    go_wp2_with fail
    go_ret
    exact ⟨by rw [leftOf, if_neg (by omega)]; rfl, Below.refl _ _⟩
  · go_enter Tryd.func26, Tryd.ntmps26
    go_wp2_with fail
    go_loopw [1, 5] (fun l i wr => ∃ k : Nat, k ≤ n ∧ i = .int .i64 k ∧ ∃ m : Int, l = .int .i64 m ∧ 0 ≤ m ∧ m ≤ 1048576 ∧ Hid (m = left - n - sumLease (us.take k)) ∧ Below w.heap.size w wr) (fun _ i _ => n - (intOf i).toNat)
    case atStart => exact ⟨0, Nat.zero_le _, rfl, _, rfl, by omega, by omega, by show _ = _; simp [sumLease], Below.refl _ _⟩
    case round =>
      obtain ⟨k, hk, rfl, m, rfl, hm0, hm1, HM, HB⟩ := hrel
      by_cases hlt : k < n
      · obtain ⟨b, off, rfl, hb, hcell⟩ := hr.elem encLease_len hn hlt
        have c0 := HB.cell (p := ⟨b, off + k * 6 + 0, none⟩) hb |>.trans (hcell 0 _ rfl)
        have c1 := HB.cell (p := ⟨b, off + k * 6 + 1, none⟩) hb |>.trans (hcell 1 _ rfl)
        have c2 := HB.cell (p := ⟨b, off + k * 6 + 2, none⟩) hb |>.trans (hcell 2 _ rfl)
        have c3 := HB.cell (p := ⟨b, off + k * 6 + 3, none⟩) hb |>.trans (hcell 3 _ rfl)
        have c4 := HB.cell (p := ⟨b, off + k * 6 + 4, none⟩) hb |>.trans (hcell 4 _ rfl)
        have c5 := HB.cell (p := ⟨b, off + k * 6 + 5, none⟩) hb |>.trans (hcell 5 _ rfl)
        simp only [Nat.add_zero] at c0
        have hfk := hf us[k] (List.getElem_mem (by omega))
        have HS : Hid (sumLease (us.take (k + 1)) = sumLease (us.take k) + szLease us[k]) := sumLease_take (by omega)
        have HL : Hid (sumLease (us.take (k + 1)) ≤ sumLease us) := sumLease_le us (k + 1)
        have hz := HB.size
        clear hcell
        generalize us[k] = u at *
        go_wp2_with (go_at_call 53; refine (szLease_any u m _ hm0 hm1 hfk).mono ?_; rintro e w1 ⟨rfl, hb1⟩)
        · go_ret
          have hx : leftOf m (szLease u) < 0 := by assumption
          have HN : leftOf left (n + sumLease us) = -1 := by
            have := leftOf_neg hx; have := HM.out; have := HS.out; have := HL.out
            rw [leftOf, if_neg (by omega)]
          exact ⟨by rw [HN]; rfl, blift HB hb1 hz⟩
        · have hx : 0 ≤ leftOf m (szLease u) := by assumption
          have hx' := leftOf_nn hx
          go_roundw
          case rel => exact ⟨k + 1, by omega, by go_num, _, rfl, hx, by omega, by have := HM.out; have := HS.out; show _ = _; omega, blift HB hb1 hz⟩
          case measure => simp [intOf]; omega
      · have HF : Hid (m = leftOf left (n + sumLease us)) := by
          have h2 := HM.out
          rw [List.take_of_length_le (by omega)] at h2
          show _ = _
          rw [leftOf, if_pos (by omega)]; omega
        go_wp2_with fail
        go_ret
        exact ⟨by rw [← HF.out]; simp, HB⟩

set_option maxHeartbeats 1000000 in
theorem toLeaseS_any (A : Option Addr) (n c : Nat) (us : List Lease) (w : World) (hr : Rd w w.heap.size 6 A n c (us.flatMap encLease)) (hn : us.length = n) (hb20 : n ≤ 1048576) :
    Calls Tryd.prog 29 #[.slice A n c] w fun e w' => ∃ A' c', e = .returned (.slice A' n c') ∧ Own w' w.heap.size w'.heap.size 40 6 (.slice A' n c') n (us.flatMap encLease) ∧ Below w.heap.size w w' := by
  obtain ⟨i0, hi, hz0, hz1, hz2⟩ := info_parts Tryd.infoLease
  have hc := hr.2.1
  have hm := hr.2.2.1
  unfold maxLen at hm
  go_enter Tryd.func29, Tryd.ntmps29
  go_wp2_with (at_make; refine wpList_make_full _ rfl _ _ 26 rfl w.heap.size 40 i0 _ 6 Tryd.underlying26 hi hz0 hz1 _ _ _ _ n rfl rfl rfl rfl ?_ ?_ ?_ ?_; rotate_right; intro w1 hown hgrow)
  case refine_1 => rw [hz2]; omega
  case refine_2 => unfold maxLen; omega
  case refine_3 => exact Nat.le_refl _
  have HB1 : Below w.heap.size w w1 := (Below.refl _ _).grown hgrow (Nat.le_refl _) (fun k hk => by cases hk)
  generalize (madeCells (Value.cells (.agg #[.int .i64 0, .int .i64 0, .string ByteArray.empty, .int .i64 0, .int .i64 0, .int .i64 0])) (n * 6)).toList = cs0 at *
  clear hgrow
  go_loopw [4] (fun i wr => ∃ k : Nat, k ≤ n ∧ i = .int .i64 k ∧ Below w.heap.size w wr ∧ ∃ cs, wr.ownsRow w.heap.size 40 6 (.slice (some ⟨w.heap.size, 0, none⟩) n n) n cs ∧ Hid (cs.take (k * 6) = (us.take k).flatMap encLease)) (fun i _ => n - (intOf i).toNat)
  case atStart => exact ⟨0, Nat.zero_le _, rfl, HB1, cs0, hown, by show _ = _; simp⟩
  case round =>
    clear HB1 hown
    obtain ⟨k, hk, rfl, HB, cs, hown, HC⟩ := hrel
    by_cases hlt : k < n
    · obtain ⟨b, off, rfl, hb, hcell⟩ := hr.elem encLease_len hn hlt
      have c0 := HB.cell (p := ⟨b, off + k * 6 + 0, none⟩) (by omega) |>.trans (hcell 0 _ rfl)
      have c1 := HB.cell (p := ⟨b, off + k * 6 + 1, none⟩) (by omega) |>.trans (hcell 1 _ rfl)
      have c2 := HB.cell (p := ⟨b, off + k * 6 + 2, none⟩) (by omega) |>.trans (hcell 2 _ rfl)
      have c3 := HB.cell (p := ⟨b, off + k * 6 + 3, none⟩) (by omega) |>.trans (hcell 3 _ rfl)
      have c4 := HB.cell (p := ⟨b, off + k * 6 + 4, none⟩) (by omega) |>.trans (hcell 4 _ rfl)
      have c5 := HB.cell (p := ⟨b, off + k * 6 + 5, none⟩) (by omega) |>.trans (hcell 5 _ rfl)
      simp only [Nat.add_zero] at c0
      have hz := HB.size
      have HT : Hid ((setL cs (k * 6) (encLease us[k])).take ((k + 1) * 6) = (us.take (k + 1)).flatMap encLease) := take_flat encLease_len (by omega) HC.out (by rw [hown.1, hn])
      clear hcell
      generalize us[k] = u at *
      go_wp2_with (go_at_call 55; refine (toLease_any u _).mono ?_; rintro e w1 ⟨rfl, hb1⟩; have hown1 := own_grow hown hb1; obtain ⟨v0, hv0, d0⟩ := own_cell hown1 (j := k * 6 + 0) (by omega); have f0 := hown1.frozenAt (k * 6 + 0); obtain ⟨v1, hv1, d1⟩ := own_cell hown1 (j := k * 6 + 1) (by omega); have f1 := hown1.frozenAt (k * 6 + 1); obtain ⟨v2, hv2, d2⟩ := own_cell hown1 (j := k * 6 + 2) (by omega); have f2 := hown1.frozenAt (k * 6 + 2); obtain ⟨v3, hv3, d3⟩ := own_cell hown1 (j := k * 6 + 3) (by omega); have f3 := hown1.frozenAt (k * 6 + 3); obtain ⟨v4, hv4, d4⟩ := own_cell hown1 (j := k * 6 + 4) (by omega); have f4 := hown1.frozenAt (k * 6 + 4); obtain ⟨v5, hv5, d5⟩ := own_cell hown1 (j := k * 6 + 5) (by omega); have f5 := hown1.frozenAt (k * 6 + 5); simp only [Nat.add_zero] at d0 f0)
      go_roundw
      case rel => exact ⟨k + 1, by omega, by go_num, (((((((blift HB hb1 hz).setCell (by simp) _).setCell (by simp) _).setCell (by simp) _).setCell (by simp) _).setCell (by simp) _).setCell (by simp) _), _, ((((((hown1.stored (k * 6) (.int .i64 u.id)).1.stored (k * 6 + 1) (.int .i64 u.token)).1.stored (k * 6 + 2) (.string u.path)).1.stored (k * 6 + 3) (.int .i64 u.made)).1.stored (k * 6 + 4) (.int .i64 u.ends)).1.stored (k * 6 + 5) (.int .i64 u.limit)).1, HT⟩
      case measure => simp [intOf]; omega
    · have HF : Hid (cs = us.flatMap encLease) := by
        have h2 := HC.out
        rw [show k = n by omega] at h2
        exact take_flat_end hn h2 hown.1
      go_wp2_with fail
      go_ret
      exact ⟨_, _, rfl, Own.of (by rw [← HF.out]; exact hown), HB⟩

set_option maxHeartbeats 2000000 in
theorem eqLeaseS_any (A A' : Option Addr) (n c c' : Nat) (us : List Lease) (w : World) (hr : Rd w w.heap.size 6 A n c (us.flatMap encLease)) (hr' : Rd w w.heap.size 6 A' n c' (us.flatMap encLease)) (hn : us.length = n) :
    Calls Tryd.prog 10 #[.slice A n c, .slice A' n c'] w fun e w' => e = .returned (.bool true) ∧ Below w.heap.size w w' := by
  have hc := hr.2.1
  have hm := hr.2.2.1
  have hc' := hr'.2.1
  unfold maxLen at hm
  go_enter Tryd.func10, Tryd.ntmps10
  go_wp2_with fail
  go_loopw [5] (fun i wr => ∃ k : Nat, k ≤ n ∧ i = .int .i64 k ∧ Below w.heap.size w wr) (fun i _ => n - (intOf i).toNat)
  case atStart => exact ⟨0, Nat.zero_le _, rfl, Below.refl _ _⟩
  case round =>
    obtain ⟨k, hk, rfl, HB⟩ := hrel
    by_cases hlt : k < n
    · obtain ⟨b, off, rfl, hb, hcell⟩ := hr.elem encLease_len hn hlt
      obtain ⟨b', off', rfl, hb', hcell'⟩ := hr'.elem encLease_len hn hlt
      have hz := HB.size
      have c0 := HB.cell (p := ⟨b, off + k * 6 + 0, none⟩) hb |>.trans (hcell 0 _ rfl)
      have e0 := HB.cell (p := ⟨b', off' + k * 6 + 0, none⟩) hb' |>.trans (hcell' 0 _ rfl)
      have c1 := HB.cell (p := ⟨b, off + k * 6 + 1, none⟩) hb |>.trans (hcell 1 _ rfl)
      have e1 := HB.cell (p := ⟨b', off' + k * 6 + 1, none⟩) hb' |>.trans (hcell' 1 _ rfl)
      have c2 := HB.cell (p := ⟨b, off + k * 6 + 2, none⟩) hb |>.trans (hcell 2 _ rfl)
      have e2 := HB.cell (p := ⟨b', off' + k * 6 + 2, none⟩) hb' |>.trans (hcell' 2 _ rfl)
      have c3 := HB.cell (p := ⟨b, off + k * 6 + 3, none⟩) hb |>.trans (hcell 3 _ rfl)
      have e3 := HB.cell (p := ⟨b', off' + k * 6 + 3, none⟩) hb' |>.trans (hcell' 3 _ rfl)
      have c4 := HB.cell (p := ⟨b, off + k * 6 + 4, none⟩) hb |>.trans (hcell 4 _ rfl)
      have e4 := HB.cell (p := ⟨b', off' + k * 6 + 4, none⟩) hb' |>.trans (hcell' 4 _ rfl)
      have c5 := HB.cell (p := ⟨b, off + k * 6 + 5, none⟩) hb |>.trans (hcell 5 _ rfl)
      have e5 := HB.cell (p := ⟨b', off' + k * 6 + 5, none⟩) hb' |>.trans (hcell' 5 _ rfl)
      simp only [Nat.add_zero] at c0 e0
      clear hcell hcell'
      generalize us[k] = u at *
      have hk1 : (k : Int) < (n : Int) := by omega
      go_wp2_with fail
      go_region_with (go_at_call 33; refine (eqLease_any u _).mono ?_; rintro e w1 ⟨rfl, hb1⟩)
      all_goals
        go_wp2
        go_roundw
        case rel => exact ⟨k + 1, by omega, by go_num, blift HB.drew hb1 hz⟩
        case measure => simp [intOf]; omega
    · go_wp2_with fail
      go_ret
      exact ⟨rfl, HB⟩

def markLeaseE (m i : Nat) : List Value := [.int .i64 ((m : Int) + (i : Int) * 6), .int .i64 ((m : Int) + (i : Int) * 6 + 1), .string (mkText (m + i * 6 + 2)), .int .i64 ((m : Int) + (i : Int) * 6 + 3), .int .i64 ((m : Int) + (i : Int) * 6 + 4), .int .i64 ((m : Int) + (i : Int) * 6 + 5)]
theorem markLeaseE_len (m : Nat) (i : Nat) : (markLeaseE m i).length = 6 := rfl
def marksLease (m n : Nat) : List Value := (List.range n).flatMap (markLeaseE m)
set_option maxHeartbeats 4000000 in
theorem markLeaseS_any (A : Option Addr) (n c m lo hi : Nat) (xs : List Value) (w : World) (h : Own w lo hi 40 6 (.slice A n c) n xs) (h0 : 0 < m) (hm : m + n * 6 ≤ 1125899906842624) :
    Calls Tryd.prog 12 #[.slice A n c, .int .i64 m] w fun e w' => e = .returned (.int .i64 ((m + n * 6 : Nat) : Int)) ∧ Own w' lo hi 40 6 (.slice A n c) n (marksLease m n) ∧ Chg w w' lo hi := by
  have hr := h.rd
  have hc := hr.2.1
  have hmx := hr.2.2.1
  unfold maxLen at hmx
  clear hr
  go_enter Tryd.func12, Tryd.ntmps12
  go_wp2_with fail
  go_loopw [1, 5] (fun l i wr => ∃ k : Nat, k ≤ n ∧ i = .int .i64 k ∧ l = .int .i64 ((m + k * 6 : Nat) : Int) ∧ Chg w wr lo hi ∧ ∃ cs, Own wr lo hi 40 6 (.slice A n c) n cs ∧ Hid (cs.take (k * 6) = ((List.range n).take k).flatMap (markLeaseE m))) (fun _ i _ => n - (intOf i).toNat)
  case atStart => exact ⟨0, Nat.zero_le _, rfl, by simp, Chg.refl _ _ _, xs, h, by show _ = _; simp⟩
  case round =>
    clear h
    obtain ⟨k, hk, rfl, rfl, HC, cs, own0, HT⟩ := hrel
    by_cases hlt : k < n
    · obtain ⟨g, rfl, hg1, hg2⟩ := own0.at_ (by omega)
      have HT' : Hid ((setL cs (k * 6) (markLeaseE m k)).take ((k + 1) * 6) = ((List.range n).take (k + 1)).flatMap (markLeaseE m)) := by
        have := take_flat (us := List.range n) (markLeaseE_len m) (i := k) (by simpa using hlt) (by exact HT.out) (by rw [own0.1.1]; simp)
        rw [List.getElem_range] at this
        exact this
      have hkk : k * 6 + 6 ≤ n * 6 := by omega
      have HS : w.heap.size ≤ _ := HC.size
      -- field id
      obtain ⟨v0, -, d0⟩ := own_cell own0.1 (j := k * 6 + 0) (by omega)
      have f0 := own0.1.frozenAt (k * 6 + 0)
      simp only [Nat.add_zero] at d0 f0
      have own1 := own0.set_in (j := k * 6) (.int .i64 ((m : Int) + (k : Int) * 6))
      have HC1 := HC.set (b := g) (o := k * 6) (.inl ⟨hg1, hg2⟩) (.int .i64 ((m : Int) + (k : Int) * 6))
      -- field token
      obtain ⟨v1, -, d1⟩ := own_cell own0.1 (j := k * 6 + 1) (by omega)
      have f1 := own0.1.frozenAt (k * 6 + 1)
      have own2 := own1.set_in (j := k * 6 + 1) (.int .i64 ((m : Int) + (k : Int) * 6 + 1))
      have HC2 := HC1.set (b := g) (o := k * 6 + 1) (.inl ⟨hg1, hg2⟩) (.int .i64 ((m : Int) + (k : Int) * 6 + 1))
      -- field path
      go_wp2_with fail
      refine (markText_any _ _ (by omega) (by omega)).mono ?_
      rintro e w2 ⟨rfl, hb2⟩
      have own2' := own2.grow' hb2
      have HC2' := HC2.grow hb2
      have ht2 : ((m : Int) + (k : Int) * 6 + 1 + 1).toNat = m + k * 6 + 2 := by omega
      rw [ht2]; clear ht2
      obtain ⟨v2, -, d2⟩ := own_cell own2'.1 (j := k * 6 + 2) (by omega)
      have f2 := own2'.1.frozenAt (k * 6 + 2)
      have own3 := own2'.set_in (j := k * 6 + 2) (.string (mkText (m + k * 6 + 2)))
      have HC3 := HC2'.set (b := g) (o := k * 6 + 2) (.inl ⟨hg1, hg2⟩) (.string (mkText (m + k * 6 + 2)))
      -- field made
      obtain ⟨v3, -, d3⟩ := own_cell own2'.1 (j := k * 6 + 3) (by omega)
      have f3 := own2'.1.frozenAt (k * 6 + 3)
      have own4 := own3.set_in (j := k * 6 + 3) (.int .i64 ((m : Int) + (k : Int) * 6 + 3))
      have HC4 := HC3.set (b := g) (o := k * 6 + 3) (.inl ⟨hg1, hg2⟩) (.int .i64 ((m : Int) + (k : Int) * 6 + 3))
      -- field ends
      obtain ⟨v4, -, d4⟩ := own_cell own2'.1 (j := k * 6 + 4) (by omega)
      have f4 := own2'.1.frozenAt (k * 6 + 4)
      have own5 := own4.set_in (j := k * 6 + 4) (.int .i64 ((m : Int) + (k : Int) * 6 + 4))
      have HC5 := HC4.set (b := g) (o := k * 6 + 4) (.inl ⟨hg1, hg2⟩) (.int .i64 ((m : Int) + (k : Int) * 6 + 4))
      -- field limit
      obtain ⟨v5, -, d5⟩ := own_cell own2'.1 (j := k * 6 + 5) (by omega)
      have f5 := own2'.1.frozenAt (k * 6 + 5)
      have own6 := own5.set_in (j := k * 6 + 5) (.int .i64 ((m : Int) + (k : Int) * 6 + 5))
      have HC6 := HC5.set (b := g) (o := k * 6 + 5) (.inl ⟨hg1, hg2⟩) (.int .i64 ((m : Int) + (k : Int) * 6 + 5))
      go_wp2
      go_roundw
      case rel => exact ⟨k + 1, by omega, by go_num, by go_num, HC6, _, own6, HT'⟩
      case measure => simp [intOf]; omega
    · have HF : Hid (cs = marksLease m n) := by
        have h2 := HT.out
        rw [show k = n by omega] at h2
        exact take_flat_end (us := List.range n) (by simp) (by exact h2) own0.1.1
      have HK : Hid (k = n) := by show _ = _; omega
      go_wp2_with fail
      go_ret
      exact ⟨by rw [← HK.out]; rfl, by rw [← HF.out]; exact own0, HC⟩

set_option maxHeartbeats 4000000 in
theorem heldLeaseS_any (A : Option Addr) (n c m : Nat) (w : World) (hr : Rd w w.heap.size 6 A n c (marksLease m n)) (h0 : 0 < m) (hm : m + n * 6 ≤ 1125899906842624) :
    Calls Tryd.prog 14 #[.slice A n c, .int .i64 m] w fun e w' => e = .returned (.int .i64 ((m + n * 6 : Nat) : Int)) ∧ Below w.heap.size w w' := by
  have hc := hr.2.1
  have hmx := hr.2.2.1
  unfold maxLen at hmx
  go_enter Tryd.func14, Tryd.ntmps14
  go_wp2_with fail
  go_loopw [1, 5] (fun l i wr => ∃ k : Nat, k ≤ n ∧ i = .int .i64 k ∧ l = .int .i64 ((m + k * 6 : Nat) : Int) ∧ Below w.heap.size w wr) (fun _ i _ => n - (intOf i).toNat)
  case atStart => exact ⟨0, Nat.zero_le _, rfl, by simp, Below.refl _ _⟩
  case round =>
    obtain ⟨k, hk, rfl, rfl, HB⟩ := hrel
    by_cases hlt : k < n
    · obtain ⟨b, off, rfl, hb, hcell⟩ := Rd.elem (us := List.range n) hr (markLeaseE_len m) (by simp) hlt
      rw [List.getElem_range] at hcell
      have hz := HB.size
      have hkk : k * 6 + 6 ≤ n * 6 := by omega
      have hk1 : (k : Int) < (n : Int) := by omega
      have hl0 : ∀ W, Below w.heap.size w W → W.cell? ⟨b, off + k * 6 + 0, none⟩ = some (.int .i64 ((m : Int) + (k : Int) * 6)) := fun W h => (h.cell (p := ⟨b, _, none⟩) hb).trans (hcell 0 _ rfl)
      have hl1 : ∀ W, Below w.heap.size w W → W.cell? ⟨b, off + k * 6 + 1, none⟩ = some (.int .i64 ((m : Int) + (k : Int) * 6 + 1)) := fun W h => (h.cell (p := ⟨b, _, none⟩) hb).trans (hcell 1 _ rfl)
      have hl2 : ∀ W, Below w.heap.size w W → W.cell? ⟨b, off + k * 6 + 2, none⟩ = some (.string (mkText (m + k * 6 + 2))) := fun W h => (h.cell (p := ⟨b, _, none⟩) hb).trans (hcell 2 _ rfl)
      have hl3 : ∀ W, Below w.heap.size w W → W.cell? ⟨b, off + k * 6 + 3, none⟩ = some (.int .i64 ((m : Int) + (k : Int) * 6 + 3)) := fun W h => (h.cell (p := ⟨b, _, none⟩) hb).trans (hcell 3 _ rfl)
      have hl4 : ∀ W, Below w.heap.size w W → W.cell? ⟨b, off + k * 6 + 4, none⟩ = some (.int .i64 ((m : Int) + (k : Int) * 6 + 4)) := fun W h => (h.cell (p := ⟨b, _, none⟩) hb).trans (hcell 4 _ rfl)
      have hl5 : ∀ W, Below w.heap.size w W → W.cell? ⟨b, off + k * 6 + 5, none⟩ = some (.int .i64 ((m : Int) + (k : Int) * 6 + 5)) := fun W h => (h.cell (p := ⟨b, _, none⟩) hb).trans (hcell 5 _ rfl)
      simp only [Nat.add_zero] at hl0
      clear hcell
      have x0 := hl0 _ HB
      have x1 := hl1 _ HB
      have x2 := hl2 _ HB
      go_wp2_with fail
      have ht2 : ((m : Int) + (k : Int) * 6 + 1 + 1).toNat = m + k * 6 + 2 := by omega
      have HT2 := Lib.hid ht2; clear ht2
      go_region_with (go_at_call 34; refine (markText_any _ _ (by omega) (by omega)).mono ?_; rintro e w2 ⟨rfl, hb2⟩; rw [HT2.out]; have y2 := hl2 _ (blift HB.drew hb2 (by exact HB.size)))
      all_goals
        have HB2 := blift HB.drew hb2 (by exact HB.size)
        have x3 := hl3 _ HB2
        have x4 := hl4 _ HB2
        have x5 := hl5 _ HB2
        go_wp2
        go_roundw
        case rel => exact ⟨k + 1, by omega, by go_num, by go_num, HB2⟩
        case measure => simp [intOf]; omega
    · have HK : Hid (k = n) := by show _ = _; omega
      go_wp2_with fail
      go_ret
      exact ⟨by rw [← HK.out]; rfl, HB⟩

end Go.Proofs.YtlmmeeeoljlgcaaDoor
namespace Go.Proofs.YtlmmeeeoljlgcaaDoor
open Go.RowKit
set_option linter.unusedVariables false

abbrev rLease (A : Option Addr) (c : Nat) (us : List Lease) : Ent := row 40 6 (.slice A us.length c) us.length (us.flatMap encLease)
theorem rLease_snoc (A : Option Addr) (c : Nat) (us : List Lease) (u : Lease) : row 40 6 (.slice A (us.length + 1) c) (us.length + 1) (us.flatMap encLease ++ encLease u) = rLease A c (us ++ [u]) := by simp [rLease]
theorem oneLease (u : Lease) : ∀ x ∈ encLease u, x.oneCell' = true := by intro x hx; simp [encLease] at hx; rcases hx with rfl | rfl | rfl | rfl | rfl | rfl <;> rfl
theorem toLeaseS_hp (A : Option Addr) (c : Nat) (us : List Lease) (w : World) (hr : Rd w w.heap.size 6 A us.length c (us.flatMap encLease)) (hb : us.length ≤ 1048576) :
    Calls Tryd.prog 29 #[.slice A us.length c] w fun e w' => ∃ A' c', e = .returned (.slice A' us.length c') ∧ Hp w w' [rLease A' c' us] :=
  (toLeaseS_any A us.length c us w hr rfl hb).mono fun e w' ⟨A', c', he, h, hb'⟩ => ⟨A', c', he, Hp.ofOwn hb' h (Nat.le_refl _)⟩
theorem markLeaseS_hp (A : Option Addr) (n c m : Nat) (mi : Int) (hmi : mi = (m : Int)) (xs : List Value) (w w0 : World) (L L' : List Ent) (H : Hp w0 w L) (hr : Rep L (row 40 6 (.slice A n c) n xs) (row 40 6 (.slice A n c) n (marksLease m n)) L') (h0 : 0 < m) (hm : m + n * 6 ≤ 1125899906842624) :
    Calls Tryd.prog 12 #[.slice A n c, .int .i64 mi] w fun e w' => e = .returned (.int .i64 ((m + n * 6 : Nat) : Int)) ∧ Hp w0 w' L' :=
  by subst hmi; exact (markLeaseS_any A n c m _ _ xs w (H.ownM hr.mem).1 h0 hm).mono fun e w' ⟨he, h, hc⟩ => ⟨he, H.chgM hr h hc⟩
theorem heldLeaseS_hp (A : Option Addr) (n c m : Nat) (mi : Int) (hmi : mi = (m : Int)) (w : World) (hr : Rd w w.heap.size 6 A n c (marksLease m n)) (h0 : 0 < m) (hm : m + n * 6 ≤ 1125899906842624) :
    Calls Tryd.prog 14 #[.slice A n c, .int .i64 mi] w fun e w' => e = .returned (.int .i64 ((m + n * 6 : Nat) : Int)) ∧ Below w.heap.size w w' := by subst hmi; exact heldLeaseS_any A n c m w hr h0 hm
end Go.Proofs.YtlmmeeeoljlgcaaDoor
namespace Go.Proofs.YtlmmeeeoljlgcaaDoor
open Go.RowKit
set_option linter.unusedVariables false

theorem encLease_one : ∀ us : List Lease, ∀ u ∈ us.flatMap encLease, u.oneCell' = true := by
  intro us u hu
  obtain ⟨x, _, hx⟩ := List.mem_flatMap.1 hu
  simp only [encLease, List.mem_cons, List.not_mem_nil, or_false] at hx
  rcases hx with rfl | rfl | rfl | rfl | rfl | rfl <;> rfl

set_option maxHeartbeats 1000000 in
theorem cloneLease_any (A : Option Addr) (n c : Nat) (us : List Lease) (w : World) (hr : Rd w w.heap.size 6 A n c (us.flatMap encLease)) (hn : us.length = n) (hb20 : n ≤ 1048576) :
    Calls Tryd.prog 57 #[.slice A n c] w fun e w' => ∃ A' c', e = .returned (.slice A' n c') ∧ Own w' w.heap.size w'.heap.size 40 6 (.slice A' n c') n (us.flatMap encLease) ∧ Below w.heap.size w w' := by
  obtain ⟨i0, hi, hz0, hz1, hz2⟩ := info_parts Tryd.infoLease
  have hm := hr.2.2.1
  have hc := hr.2.1
  unfold maxLen at hm
  cases A with
  | none =>
    obtain ⟨rfl, rfl⟩ := hr.none_nil hn
    have q := fun (W : World) => Lib.run_eql_slice_nil (P := Tryd.prog) W 26 _ none 0 c 0 0 Tryd.underlying26
    go_enter Tryd.func57, Tryd.ntmps57
    go_wp2
    go_ret
    exact ⟨none, 0, rfl, Own.nil_ _ _ _, Below.refl _ _⟩
  | some ad =>
    have q := fun (W : World) => Lib.run_eql_slice_nil (P := Tryd.prog) W 26 _ (some ad) n c 0 0 Tryd.underlying26
    have hl := hr.1
    have hcs : ∀ W, Below w.heap.size w W → ∀ j u, (us.flatMap encLease)[j]? = some u → W.cell? (ad.add j) = some u := fun W h => hr.cells_some h
    go_enter Tryd.func57, Tryd.ntmps57
    go_wp2_with (at_builtin; refine wpList_append_own _ rfl _ _ 26 rfl w.heap.size 40 i0 _ 6 _ Tryd.underlying26 hi hz0 hz1 hz2 rfl (by decide) _ _ _ rfl (World.ownsRow_made w #[] 0 (Nat.le_refl _) (Nat.zero_le _) (by simp)) ad n c (us.flatMap encLease) rfl ?qc1 ?qc2 ?qc3 ?qc4 ?qc5 ?qc6 ?_)
    case qc1 => exact hl
    case qc2 => exact hcs _ (below_alloc _ _)
    case qc3 => exact encLease_one us
    case qc4 => unfold maxLen; omega
    case qc5 => omega
    case qc6 => simp
    intro v' w1 hown hgrow hnil
    go_wp2
    go_ret
    have hown' : w1.ownsRow w.heap.size 40 6 v' n (us.flatMap encLease) := by simpa using hown
    obtain ⟨A', c', rfl, -, -⟩ := own_rd hown'
    exact ⟨A', c', rfl, Own.of hown', ((Below.refl _ w).alloc (Nat.le_refl _) _).grown hgrow (by simp) (by intro k hk; simp [Value.ownBlock] at hk; omega)⟩

/-- What is asked of a predicate: it answers, and leaves what was there. -/
def PredLease (g : Nat) (cb : Array Value) (p : Lease → Bool) (w : World) : Prop := ∀ (W : World) (x : Lease), Below w.heap.size w W → Calls Tryd.prog g (#[.agg #[.int .i64 x.id, .int .i64 x.token, .string x.path, .int .i64 x.made, .int .i64 x.ends, .int .i64 x.limit]] ++ cb) W fun e w' => e = .returned (.bool (p x)) ∧ Below W.heap.size W w'
set_option maxHeartbeats 2000000 in
theorem indexFuncLease_any (g : Nat) (cb : Array Value) (p : Lease → Bool) (eg : ∀ args w, (callFunc g args).run Tryd.prog w = .ok (.enter g args) w) (A : Option Addr) (n c : Nat) (us : List Lease) (w : World) (hp : PredLease g cb p w) (hr : Rd w w.heap.size 6 A n c (us.flatMap encLease)) (hn : us.length = n) :
    Calls Tryd.prog 68 #[.slice A n c, .func (.func g) #[] cb] w fun e w' => e = .returned (.int .i64 (ixP p us 0)) ∧ Below w.heap.size w w' := by
  have hc := hr.2.1
  have hm := hr.2.2.1
  unfold maxLen at hm
  have HP := Lib.hid hp; clear hp
  go_enter Tryd.func68, Tryd.ntmps68
  go_wp2_with fail
  go_loopw [8] (fun i wr => ∃ k : Nat, k ≤ n ∧ i = .int .i64 k ∧ Below w.heap.size w wr ∧ Hid (ixP p us 0 = ixP p (us.drop k) k)) (fun i _ => n - (intOf i).toNat)
  case atStart => exact ⟨0, Nat.zero_le _, rfl, Below.refl _ _, rfl⟩
  case round =>
    obtain ⟨k, hk, rfl, HB, HE⟩ := hrel
    by_cases hlt : k < n
    · obtain ⟨b, off, rfl, hb, hcell⟩ := hr.elem encLease_len hn hlt
      have c0 := HB.cell (p := ⟨b, off + k * 6 + 0, none⟩) hb |>.trans (hcell 0 _ rfl)
      have c1 := HB.cell (p := ⟨b, off + k * 6 + 1, none⟩) hb |>.trans (hcell 1 _ rfl)
      have c2 := HB.cell (p := ⟨b, off + k * 6 + 2, none⟩) hb |>.trans (hcell 2 _ rfl)
      have c3 := HB.cell (p := ⟨b, off + k * 6 + 3, none⟩) hb |>.trans (hcell 3 _ rfl)
      have c4 := HB.cell (p := ⟨b, off + k * 6 + 4, none⟩) hb |>.trans (hcell 4 _ rfl)
      have c5 := HB.cell (p := ⟨b, off + k * 6 + 5, none⟩) hb |>.trans (hcell 5 _ rfl)
      simp only [Nat.add_zero] at c0
      have hk1 : (k : Int) < (n : Int) := by omega
      have hz := HB.size
      have hcall := HP.out wr us[k] HB
      cases he : p us[k] with
      | true =>
        have HN : Hid (ixP p us 0 = k) := by show _ = _; rw [HE.out, ixP_hit (by omega) he]
        rw [he] at hcall
        clear hcell he
        generalize us[k] = t at c0 c1 c2 c3 c4 c5 hcall
        have HC := Lib.hid hcall; clear hcall
        go_wp2_with (go_at_fn g; refine HC.out.mono ?_; rintro e w1 ⟨rfl, hb1⟩)
        go_ret
        exact ⟨by rw [HN.out]; rfl, blift HB hb1 hz⟩
      | false =>
        have HN : Hid (ixP p us 0 = ixP p (us.drop (k + 1)) (k + 1)) := by show _ = _; rw [HE.out, ixP_skip (by omega) he]
        rw [he] at hcall
        clear hcell he
        generalize us[k] = t at c0 c1 c2 c3 c4 c5 hcall
        have HC := Lib.hid hcall; clear hcall
        go_wp2_with (go_at_fn g; refine HC.out.mono ?_; rintro e w1 ⟨rfl, hb1⟩)
        go_roundw
        case rel => exact ⟨k + 1, by omega, by go_num, blift HB hb1 hz, HN⟩
        case measure => simp [intOf]; omega
    · have HN : Hid (ixP p us 0 = -1) := by
        show _ = _
        rw [HE.out, List.drop_eq_nil_of_le (by omega), ixP]
      go_wp2_with fail
      go_ret
      exact ⟨by rw [HN.out]; rfl, HB⟩
end Go.Proofs.YtlmmeeeoljlgcaaDoor
