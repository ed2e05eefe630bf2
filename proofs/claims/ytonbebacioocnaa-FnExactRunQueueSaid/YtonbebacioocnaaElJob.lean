/- Elements Job: data, and contracts of the statements' own helpers over them. No condition. -/
import Derived.Test.YtonbebacioocnaaMark
import Derived.Deep.QuietTactic
import Derived.BigQuiet
import Derived.Deep.RegionHeld3
namespace Go.Proofs.Ytonbebacioocnaa
open Go.RowKit

structure Job where
  name : ByteArray
  at_ : Int
  tries : Int
def encJob (x : Job) : List Value := [.string x.name, .int .i64 x.at_, .int .i64 x.tries]
theorem encJob_len (x : Job) : (encJob x).length = 3 := rfl
def JobFits (x : Job) : Prop := x.name.size ≤ maxLen
theorem JobFits.name {x : Job} (h : JobFits x) : x.name.size ≤ maxLen := h
def szJob (x : Job) : Nat := x.name.size
def sumJob (us : List Job) : Nat := (us.map szJob).sum
theorem sumJob_take {us : List Job} {k : Nat} (h : k < us.length) : sumJob (us.take (k + 1)) = sumJob (us.take k) + szJob us[k] := by
  rw [sumJob, sumJob, List.take_succ_eq_append_getElem h, List.map_append, List.sum_append, List.map_cons, List.map_nil, List.sum_cons, List.sum_nil, Nat.add_zero]
theorem sumJob_le (us : List Job) (k : Nat) : sumJob (us.take k) ≤ sumJob us := by
  have h : sumJob us = sumJob (us.take k) + sumJob (us.drop k) := by rw [sumJob, sumJob, sumJob, ← List.sum_append, ← List.map_append, List.take_append_drop]
  omega

theorem Try.infoJob : (Try.prog.info? 56).map (fun i => (i.zero, i.size, i.bytes)) = some (some (.agg #[.string ByteArray.empty, .int .i64 0, .int .i64 0]), 3, 32) := by kernel_rfl
theorem toJob_any (u : Job) (w : World) :
    Calls Try.prog 45 #[.agg #[.string u.name, .int .i64 u.at_, .int .i64 u.tries]] w fun e w' => e = .returned (.agg #[.string u.name, .int .i64 u.at_, .int .i64 u.tries]) ∧ Below w.heap.size w w' := by
  go_enter Try.func45, Try.ntmps45
  go_wp2
  refine bodyPost_ret (v := .agg #[.string u.name, .int .i64 u.at_, .int .i64 u.tries]) (by simp [results, Try.results45, go_sem]) rfl ⟨rfl, ?_⟩
  go_grown

theorem eqJob_any (u : Job) (w : World) :
    Calls Try.prog 52 #[.agg #[.string u.name, .int .i64 u.at_, .int .i64 u.tries], .agg #[.string u.name, .int .i64 u.at_, .int .i64 u.tries]] w fun e w' => e = .returned (.bool true) ∧ Below w.heap.size w w' := by
  go_enter Try.func52, Try.ntmps52
  go_wp2
  go_ret
  refine ⟨rfl, ?_⟩
  go_grown

set_option maxHeartbeats 1000000 in
theorem szJob_any (u : Job) (left : Int) (w : World) (h0 : 0 ≤ left) (h1 : left ≤ 1048576) (hf : JobFits u) :
    Calls Try.prog 42 #[.agg #[.string u.name, .int .i64 u.at_, .int .i64 u.tries], .int .i64 left] w fun e w' => e = .returned (.int .i64 (leftOf left (szJob u))) ∧ Below w.heap.size w w' := by
  have HE : Hid (szJob u = u.name.size) := rfl
  have q0 := hf.name
  unfold maxLen at q0
  generalize u.name = s0 at *
  by_cases c0 : left - (s0.size : Int) < 0
  · have HL : Hid (leftOf left (szJob u) = -1) := by have := HE.out; show _ = _; rw [leftOf, if_neg (by omega)]
    clear HE
    go_enter Try.func42, Try.ntmps42
    go_wp2
    go_ret
    exact ⟨by rw [HL.out]; rfl, (Below.refl _ _).alloc (Nat.le_refl _) _⟩
  have HL : Hid (leftOf left (szJob u) = left - (s0.size : Int)) := by have := HE.out; show _ = _; rw [leftOf, if_pos (by omega)]; omega
  clear HE
  go_enter Try.func42, Try.ntmps42
  go_wp2
  go_ret
  exact ⟨by rw [HL.out]; rfl, (Below.refl _ _).alloc (Nat.le_refl _) _⟩

set_option maxHeartbeats 1000000 in
theorem szJobS_any (A : Option Addr) (n c : Nat) (us : List Job) (left : Int) (w : World) (hr : Rd w w.heap.size 3 A n c (us.flatMap encJob)) (hn : us.length = n) (h0 : 0 ≤ left) (h1 : left ≤ 1048576) (hf : ∀ u ∈ us, JobFits u) :
    Calls Try.prog 19 #[.slice A n c, .int .i64 left] w fun e w' => e = .returned (.int .i64 (leftOf left (n + sumJob us))) ∧ Below w.heap.size w w' := by
  have hc := hr.2.1
  have hm := hr.2.2.1
  unfold maxLen at hm
  by_cases c1 : left - (n : Int) < 0
  · go_enter Try.func19, Try.ntmps19
    go_wp2_with fail
    go_ret
    exact ⟨by rw [leftOf, if_neg (by omega)]; rfl, Below.refl _ _⟩
  · go_enter Try.func19, Try.ntmps19
    go_wp2_with fail
    go_loopw [1, 5] (fun l i wr => ∃ k : Nat, k ≤ n ∧ i = .int .i64 k ∧ ∃ m : Int, l = .int .i64 m ∧ 0 ≤ m ∧ m ≤ 1048576 ∧ Hid (m = left - n - sumJob (us.take k)) ∧ Below w.heap.size w wr) (fun _ i _ => n - (intOf i).toNat)
    case atStart => exact ⟨0, Nat.zero_le _, rfl, _, rfl, by omega, by omega, by show _ = _; simp [sumJob], Below.refl _ _⟩
    case round =>
      obtain ⟨k, hk, rfl, m, rfl, hm0, hm1, HM, HB⟩ := hrel
      by_cases hlt : k < n
      · obtain ⟨b, off, rfl, hb, hcell⟩ := hr.elem encJob_len hn hlt
        have c0 := HB.cell (p := ⟨b, off + k * 3 + 0, none⟩) hb |>.trans (hcell 0 _ rfl)
        have c1 := HB.cell (p := ⟨b, off + k * 3 + 1, none⟩) hb |>.trans (hcell 1 _ rfl)
        have c2 := HB.cell (p := ⟨b, off + k * 3 + 2, none⟩) hb |>.trans (hcell 2 _ rfl)
        simp only [Nat.add_zero] at c0
        have hfk := hf us[k] (List.getElem_mem (by omega))
        have HS : Hid (sumJob (us.take (k + 1)) = sumJob (us.take k) + szJob us[k]) := sumJob_take (by omega)
        have HL : Hid (sumJob (us.take (k + 1)) ≤ sumJob us) := sumJob_le us (k + 1)
        have hz := HB.size
        clear hcell
        generalize us[k] = u at *
        go_wp2_with (go_at_call 42; refine (szJob_any u m _ hm0 hm1 hfk).mono ?_; rintro e w1 ⟨rfl, hb1⟩)
        · go_ret
          have hx : leftOf m (szJob u) < 0 := by assumption
          have HN : leftOf left (n + sumJob us) = -1 := by
            have := leftOf_neg hx; have := HM.out; have := HS.out; have := HL.out
            rw [leftOf, if_neg (by omega)]
          exact ⟨by rw [HN]; rfl, blift HB hb1 hz⟩
        · have hx : 0 ≤ leftOf m (szJob u) := by assumption
          have hx' := leftOf_nn hx
          go_roundw
          case rel => exact ⟨k + 1, by omega, by go_num, _, rfl, hx, by omega, by have := HM.out; have := HS.out; show _ = _; omega, blift HB hb1 hz⟩
          case measure => simp [intOf]; omega
      · have HF : Hid (m = leftOf left (n + sumJob us)) := by
          have h2 := HM.out
          rw [List.take_of_length_le (by omega)] at h2
          show _ = _
          rw [leftOf, if_pos (by omega)]; omega
        go_wp2_with fail
        go_ret
        exact ⟨by rw [← HF.out]; simp, HB⟩

set_option maxHeartbeats 1000000 in
theorem toJobS_any (A : Option Addr) (n c : Nat) (us : List Job) (w : World) (hr : Rd w w.heap.size 3 A n c (us.flatMap encJob)) (hn : us.length = n) (hb20 : n ≤ 1048576) :
    Calls Try.prog 27 #[.slice A n c] w fun e w' => ∃ A' c', e = .returned (.slice A' n c') ∧ Own w' w.heap.size w'.heap.size 56 3 (.slice A' n c') n (us.flatMap encJob) ∧ Below w.heap.size w w' := by
  obtain ⟨i0, hi, hz0, hz1, hz2⟩ := info_parts Try.infoJob
  have hc := hr.2.1
  have hm := hr.2.2.1
  unfold maxLen at hm
  go_enter Try.func27, Try.ntmps27
  go_wp2_with (at_make; refine wpList_make_full _ rfl _ _ 30 rfl w.heap.size 56 i0 _ 3 Try.underlying30 hi hz0 hz1 _ _ _ _ n rfl rfl rfl rfl ?_ ?_ ?_ ?_; rotate_right; intro w1 hown hgrow)
  case refine_1 => rw [hz2]; omega
  case refine_2 => unfold maxLen; omega
  case refine_3 => exact Nat.le_refl _
  have HB1 : Below w.heap.size w w1 := (Below.refl _ _).grown hgrow (Nat.le_refl _) (fun k hk => by cases hk)
  generalize (madeCells (Value.cells (.agg #[.string ByteArray.empty, .int .i64 0, .int .i64 0])) (n * 3)).toList = cs0 at *
  clear hgrow
  go_loopw [4] (fun i wr => ∃ k : Nat, k ≤ n ∧ i = .int .i64 k ∧ Below w.heap.size w wr ∧ ∃ cs, wr.ownsRow w.heap.size 56 3 (.slice (some ⟨w.heap.size, 0, none⟩) n n) n cs ∧ Hid (cs.take (k * 3) = (us.take k).flatMap encJob)) (fun i _ => n - (intOf i).toNat)
  case atStart => exact ⟨0, Nat.zero_le _, rfl, HB1, cs0, hown, by show _ = _; simp⟩
  case round =>
    clear HB1 hown
    obtain ⟨k, hk, rfl, HB, cs, hown, HC⟩ := hrel
    by_cases hlt : k < n
    · obtain ⟨b, off, rfl, hb, hcell⟩ := hr.elem encJob_len hn hlt
      have c0 := HB.cell (p := ⟨b, off + k * 3 + 0, none⟩) (by omega) |>.trans (hcell 0 _ rfl)
      have c1 := HB.cell (p := ⟨b, off + k * 3 + 1, none⟩) (by omega) |>.trans (hcell 1 _ rfl)
      have c2 := HB.cell (p := ⟨b, off + k * 3 + 2, none⟩) (by omega) |>.trans (hcell 2 _ rfl)
      simp only [Nat.add_zero] at c0
      have hz := HB.size
      have HT : Hid ((setL cs (k * 3) (encJob us[k])).take ((k + 1) * 3) = (us.take (k + 1)).flatMap encJob) := take_flat encJob_len (by omega) HC.out (by rw [hown.1, hn])
      clear hcell
      generalize us[k] = u at *
      go_wp2_with (go_at_call 45; refine (toJob_any u _).mono ?_; rintro e w1 ⟨rfl, hb1⟩; have hown1 := own_grow hown hb1; obtain ⟨v0, hv0, d0⟩ := own_cell hown1 (j := k * 3 + 0) (by omega); have f0 := hown1.frozenAt (k * 3 + 0); obtain ⟨v1, hv1, d1⟩ := own_cell hown1 (j := k * 3 + 1) (by omega); have f1 := hown1.frozenAt (k * 3 + 1); obtain ⟨v2, hv2, d2⟩ := own_cell hown1 (j := k * 3 + 2) (by omega); have f2 := hown1.frozenAt (k * 3 + 2); simp only [Nat.add_zero] at d0 f0)
      go_roundw
      case rel => exact ⟨k + 1, by omega, by go_num, ((((blift HB hb1 hz).setCell (by simp) _).setCell (by simp) _).setCell (by simp) _), _, (((hown1.stored (k * 3) (.string u.name)).1.stored (k * 3 + 1) (.int .i64 u.at_)).1.stored (k * 3 + 2) (.int .i64 u.tries)).1, HT⟩
      case measure => simp [intOf]; omega
    · have HF : Hid (cs = us.flatMap encJob) := by
        have h2 := HC.out
        rw [show k = n by omega] at h2
        exact take_flat_end hn h2 hown.1
      go_wp2_with fail
      go_ret
      exact ⟨_, _, rfl, Own.of (by rw [← HF.out]; exact hown), HB⟩

set_option maxHeartbeats 2000000 in
theorem eqJobS_any (A A' : Option Addr) (n c c' : Nat) (us : List Job) (w : World) (hr : Rd w w.heap.size 3 A n c (us.flatMap encJob)) (hr' : Rd w w.heap.size 3 A' n c' (us.flatMap encJob)) (hn : us.length = n) :
    Calls Try.prog 35 #[.slice A n c, .slice A' n c'] w fun e w' => e = .returned (.bool true) ∧ Below w.heap.size w w' := by
  have hc := hr.2.1
  have hm := hr.2.2.1
  have hc' := hr'.2.1
  unfold maxLen at hm
  go_enter Try.func35, Try.ntmps35
  go_wp2_with fail
  go_loopw [5] (fun i wr => ∃ k : Nat, k ≤ n ∧ i = .int .i64 k ∧ Below w.heap.size w wr) (fun i _ => n - (intOf i).toNat)
  case atStart => exact ⟨0, Nat.zero_le _, rfl, Below.refl _ _⟩
  case round =>
    obtain ⟨k, hk, rfl, HB⟩ := hrel
    by_cases hlt : k < n
    · obtain ⟨b, off, rfl, hb, hcell⟩ := hr.elem encJob_len hn hlt
      obtain ⟨b', off', rfl, hb', hcell'⟩ := hr'.elem encJob_len hn hlt
      have hz := HB.size
      have c0 := HB.cell (p := ⟨b, off + k * 3 + 0, none⟩) hb |>.trans (hcell 0 _ rfl)
      have e0 := HB.cell (p := ⟨b', off' + k * 3 + 0, none⟩) hb' |>.trans (hcell' 0 _ rfl)
      have c1 := HB.cell (p := ⟨b, off + k * 3 + 1, none⟩) hb |>.trans (hcell 1 _ rfl)
      have e1 := HB.cell (p := ⟨b', off' + k * 3 + 1, none⟩) hb' |>.trans (hcell' 1 _ rfl)
      have c2 := HB.cell (p := ⟨b, off + k * 3 + 2, none⟩) hb |>.trans (hcell 2 _ rfl)
      have e2 := HB.cell (p := ⟨b', off' + k * 3 + 2, none⟩) hb' |>.trans (hcell' 2 _ rfl)
      simp only [Nat.add_zero] at c0 e0
      clear hcell hcell'
      generalize us[k] = u at *
      have hk1 : (k : Int) < (n : Int) := by omega
      go_wp2_with fail
      go_region_with (go_at_call 52; refine (eqJob_any u _).mono ?_; rintro e w1 ⟨rfl, hb1⟩)
      all_goals
        go_wp2
        go_roundw
        case rel => exact ⟨k + 1, by omega, by go_num, blift HB.drew hb1 hz⟩
        case measure => simp [intOf]; omega
    · go_wp2_with fail
      go_ret
      exact ⟨rfl, HB⟩

def markJobE (m i : Nat) : List Value := [.string (mkText (m + i * 3 + 0)), .int .i64 ((m : Int) + (i : Int) * 3 + 1), .int .i64 ((m : Int) + (i : Int) * 3 + 2)]
theorem markJobE_len (m : Nat) (i : Nat) : (markJobE m i).length = 3 := rfl
def marksJob (m n : Nat) : List Value := (List.range n).flatMap (markJobE m)
set_option maxHeartbeats 4000000 in
theorem markJobS_any (A : Option Addr) (n c m lo hi : Nat) (xs : List Value) (w : World) (h : Own w lo hi 56 3 (.slice A n c) n xs) (h0 : 0 < m) (hm : m + n * 3 ≤ 1125899906842624) :
    Calls Try.prog 37 #[.slice A n c, .int .i64 m] w fun e w' => e = .returned (.int .i64 ((m + n * 3 : Nat) : Int)) ∧ Own w' lo hi 56 3 (.slice A n c) n (marksJob m n) ∧ Chg w w' lo hi := by
  have hr := h.rd
  have hc := hr.2.1
  have hmx := hr.2.2.1
  unfold maxLen at hmx
  clear hr
  go_enter Try.func37, Try.ntmps37
  go_wp2_with fail
  go_loopw [1, 5] (fun l i wr => ∃ k : Nat, k ≤ n ∧ i = .int .i64 k ∧ l = .int .i64 ((m + k * 3 : Nat) : Int) ∧ Chg w wr lo hi ∧ ∃ cs, Own wr lo hi 56 3 (.slice A n c) n cs ∧ Hid (cs.take (k * 3) = ((List.range n).take k).flatMap (markJobE m))) (fun _ i _ => n - (intOf i).toNat)
  case atStart => exact ⟨0, Nat.zero_le _, rfl, by simp, Chg.refl _ _ _, xs, h, by show _ = _; simp⟩
  case round =>
    clear h
    obtain ⟨k, hk, rfl, rfl, HC, cs, own0, HT⟩ := hrel
    by_cases hlt : k < n
    · obtain ⟨g, rfl, hg1, hg2⟩ := own0.at_ (by omega)
      have HT' : Hid ((setL cs (k * 3) (markJobE m k)).take ((k + 1) * 3) = ((List.range n).take (k + 1)).flatMap (markJobE m)) := by
        have := take_flat (us := List.range n) (markJobE_len m) (i := k) (by simpa using hlt) (by exact HT.out) (by rw [own0.1.1]; simp)
        rw [List.getElem_range] at this
        exact this
      have hkk : k * 3 + 3 ≤ n * 3 := by omega
      have HS : w.heap.size ≤ _ := HC.size
      -- field name
      go_wp2_with fail
      refine (markText_any _ _ (by omega) (by omega)).mono ?_
      rintro e w0 ⟨rfl, hb0⟩
      have own0' := own0.grow' hb0
      have HC0' := HC.grow hb0
      have ht0 : ((m : Int) + (k : Int) * 3).toNat = m + k * 3 + 0 := by omega
      rw [ht0]; clear ht0
      obtain ⟨v0, -, d0⟩ := own_cell own0'.1 (j := k * 3 + 0) (by omega)
      have f0 := own0'.1.frozenAt (k * 3 + 0)
      simp only [Nat.add_zero] at d0 f0
      have own1 := own0'.set_in (j := k * 3) (.string (mkText (m + k * 3 + 0)))
      have HC1 := HC0'.set (b := g) (o := k * 3) (.inl ⟨hg1, hg2⟩) (.string (mkText (m + k * 3 + 0)))
      -- field at_
      obtain ⟨v1, -, d1⟩ := own_cell own0'.1 (j := k * 3 + 1) (by omega)
      have f1 := own0'.1.frozenAt (k * 3 + 1)
      have own2 := own1.set_in (j := k * 3 + 1) (.int .i64 ((m : Int) + (k : Int) * 3 + 1))
      have HC2 := HC1.set (b := g) (o := k * 3 + 1) (.inl ⟨hg1, hg2⟩) (.int .i64 ((m : Int) + (k : Int) * 3 + 1))
      -- field tries
      obtain ⟨v2, -, d2⟩ := own_cell own0'.1 (j := k * 3 + 2) (by omega)
      have f2 := own0'.1.frozenAt (k * 3 + 2)
      have own3 := own2.set_in (j := k * 3 + 2) (.int .i64 ((m : Int) + (k : Int) * 3 + 2))
      have HC3 := HC2.set (b := g) (o := k * 3 + 2) (.inl ⟨hg1, hg2⟩) (.int .i64 ((m : Int) + (k : Int) * 3 + 2))
      go_wp2
      go_roundw
      case rel => exact ⟨k + 1, by omega, by go_num, by go_num, HC3, _, own3, HT'⟩
      case measure => simp [intOf]; omega
    · have HF : Hid (cs = marksJob m n) := by
        have h2 := HT.out
        rw [show k = n by omega] at h2
        exact take_flat_end (us := List.range n) (by simp) (by exact h2) own0.1.1
      have HK : Hid (k = n) := by show _ = _; omega
      go_wp2_with fail
      go_ret
      exact ⟨by rw [← HK.out]; rfl, by rw [← HF.out]; exact own0, HC⟩

set_option maxHeartbeats 4000000 in
theorem heldJobS_any (A : Option Addr) (n c m : Nat) (w : World) (hr : Rd w w.heap.size 3 A n c (marksJob m n)) (h0 : 0 < m) (hm : m + n * 3 ≤ 1125899906842624) :
    Calls Try.prog 40 #[.slice A n c, .int .i64 m] w fun e w' => e = .returned (.int .i64 ((m + n * 3 : Nat) : Int)) ∧ Below w.heap.size w w' := by
  have hc := hr.2.1
  have hmx := hr.2.2.1
  unfold maxLen at hmx
  go_enter Try.func40, Try.ntmps40
  go_wp2_with fail
  go_loopw [1, 5] (fun l i wr => ∃ k : Nat, k ≤ n ∧ i = .int .i64 k ∧ l = .int .i64 ((m + k * 3 : Nat) : Int) ∧ Below w.heap.size w wr) (fun _ i _ => n - (intOf i).toNat)
  case atStart => exact ⟨0, Nat.zero_le _, rfl, by simp, Below.refl _ _⟩
  case round =>
    obtain ⟨k, hk, rfl, rfl, HB⟩ := hrel
    by_cases hlt : k < n
    · obtain ⟨b, off, rfl, hb, hcell⟩ := Rd.elem (us := List.range n) hr (markJobE_len m) (by simp) hlt
      rw [List.getElem_range] at hcell
      have hz := HB.size
      have hkk : k * 3 + 3 ≤ n * 3 := by omega
      have hk1 : (k : Int) < (n : Int) := by omega
      have hl0 : ∀ W, Below w.heap.size w W → W.cell? ⟨b, off + k * 3 + 0, none⟩ = some (.string (mkText (m + k * 3 + 0))) := fun W h => (h.cell (p := ⟨b, _, none⟩) hb).trans (hcell 0 _ rfl)
      have hl1 : ∀ W, Below w.heap.size w W → W.cell? ⟨b, off + k * 3 + 1, none⟩ = some (.int .i64 ((m : Int) + (k : Int) * 3 + 1)) := fun W h => (h.cell (p := ⟨b, _, none⟩) hb).trans (hcell 1 _ rfl)
      have hl2 : ∀ W, Below w.heap.size w W → W.cell? ⟨b, off + k * 3 + 2, none⟩ = some (.int .i64 ((m : Int) + (k : Int) * 3 + 2)) := fun W h => (h.cell (p := ⟨b, _, none⟩) hb).trans (hcell 2 _ rfl)
      simp only [Nat.add_zero] at hl0
      clear hcell
      have x0 := hl0 _ HB
      go_wp2_with fail
      have ht0 : ((m : Int) + (k : Int) * 3).toNat = m + k * 3 + 0 := by omega
      have HT0 := Lib.hid ht0; clear ht0
      go_region_with (go_at_call 39; refine (markText_any _ _ (by omega) (by omega)).mono ?_; rintro e w0 ⟨rfl, hb0⟩; rw [HT0.out]; have y0 := hl0 _ (blift HB.drew hb0 (by exact HB.size)))
      all_goals
        have HB0 := blift HB.drew hb0 (by exact HB.size)
        have x1 := hl1 _ HB0
        have x2 := hl2 _ HB0
        go_wp2
        go_roundw
        case rel => exact ⟨k + 1, by omega, by go_num, by go_num, HB0⟩
        case measure => simp [intOf]; omega
    · have HK : Hid (k = n) := by show _ = _; omega
      go_wp2_with fail
      go_ret
      exact ⟨by rw [← HK.out]; rfl, HB⟩

end Go.Proofs.Ytonbebacioocnaa
