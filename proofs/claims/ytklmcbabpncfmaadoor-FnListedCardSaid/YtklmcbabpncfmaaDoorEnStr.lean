/- Slices of strings: their rows as entries of a footprint, and the statements' own helpers over them. No condition. -/
import Derived.Test.YtklmcbabpncfmaaDoorMark
import Derived.Test.YtklmcbabpncfmaaDoorHp
import Derived.Test.YtklmcbabpncfmaaDoorCore
import Derived.Deep.QuietTactic
import Derived.BigQuiet
import Derived.Deep.RegionWith
namespace Go.Proofs.YtklmcbabpncfmaaDoor
open Go.RowKit
set_option linter.unusedVariables false
set_option linter.unusedSimpArgs false
def encStr (x : ByteArray) : List Value := [.string x]
theorem encStr_len (x : ByteArray) : (encStr x).length = 1 := rfl
abbrev rStr (A : Option Addr) (c : Nat) (us : List ByteArray) : Ent := row 9 1 (.slice A us.length c) us.length (us.flatMap encStr)
theorem rStr_snoc (A : Option Addr) (c : Nat) (us : List ByteArray) (u : ByteArray) : row 9 1 (.slice A (us.length + 1) c) (us.length + 1) (us.flatMap encStr ++ encStr u) = rStr A c (us ++ [u]) := by simp [rStr]
theorem oneStr (u : ByteArray) : ∀ x ∈ encStr u, x.oneCell' = true := by intro x hx; simp [encStr] at hx; subst hx; rfl
theorem Tryd.infoStr : (Tryd.prog.info? 9).map (fun i => (i.zero, i.size, i.bytes)) = some (some (.string ByteArray.empty), 1, 16) := by kernel_rfl
set_option maxHeartbeats 2000000 in
theorem eqStrS_any (A A' : Option Addr) (n c c' : Nat) (us : List ByteArray) (w : World) (hr : Rd w w.heap.size 1 A n c (us.flatMap encStr)) (hr' : Rd w w.heap.size 1 A' n c' (us.flatMap encStr)) (hn : us.length = n) :
    Calls Tryd.prog 22 #[.slice A n c, .slice A' n c'] w fun e w' => e = .returned (.bool true) ∧ Below w.heap.size w w' := by
  have hc := hr.2.1
  have hm := hr.2.2.1
  have hc' := hr'.2.1
  unfold maxLen at hm
  go_enter Tryd.func22, Tryd.ntmps22
  go_wp2_with fail
  go_loopw [5] (fun i wr => ∃ k : Nat, k ≤ n ∧ i = .int .i64 k ∧ Below w.heap.size w wr) (fun i _ => n - (intOf i).toNat)
  case atStart => exact ⟨0, Nat.zero_le _, rfl, Below.refl _ _⟩
  case round =>
    obtain ⟨k, hk, rfl, HB⟩ := hrel
    by_cases hlt : k < n
    · obtain ⟨b, off, rfl, hb, hcell⟩ := hr.elem encStr_len hn hlt
      obtain ⟨b', off', rfl, hb', hcell'⟩ := hr'.elem encStr_len hn hlt
      have c0 := HB.cell (p := ⟨b, off + k * 1 + 0, none⟩) hb |>.trans (hcell 0 _ rfl)
      have e0 := HB.cell (p := ⟨b', off' + k * 1 + 0, none⟩) hb' |>.trans (hcell' 0 _ rfl)
      simp only [Nat.add_zero, Nat.mul_one] at c0 e0
      clear hcell hcell'
      generalize us[k] = u at *
      have hk1 : (k : Int) < (n : Int) := by omega
      have hk0 : (0 : Int) ≤ (k : Int) := by omega
      go_wp2_with fail
      try go_quiet (fail)
      all_goals
        go_wp2_with fail
        go_roundw
        case rel => exact ⟨k + 1, by omega, by go_num, by first | exact HB | exact below_drewN HB _⟩
        case measure => simp [intOf]; omega
    · go_wp2_with fail
      go_ret
      exact ⟨rfl, HB⟩
def marksStr (m n : Nat) : List Value := (List.range n).flatMap fun i => [.string (mkText (m + i))]
theorem marksStr_len (m n : Nat) : (marksStr m n).length = n := by
  rw [marksStr, flat_len (fun i => [.string (mkText (m + i))]) 1 (fun _ => rfl)]; simp
set_option maxHeartbeats 4000000 in
theorem markStrS_any (A : Option Addr) (n c m lo hi : Nat) (xs : List Value) (w : World) (h : Own w lo hi 9 1 (.slice A n c) n xs) (h0 : 0 < m) (hm : m + n * 1 ≤ 1125899906842624) :
    Calls Tryd.prog 25 #[.slice A n c, .int .i64 m] w fun e w' => e = .returned (.int .i64 ((m + n * 1 : Nat) : Int)) ∧ Own w' lo hi 9 1 (.slice A n c) n (marksStr m n) ∧ Chg w w' lo hi := by
  have hr := h.rd
  have hc := hr.2.1
  have hmx := hr.2.2.1
  unfold maxLen at hmx
  clear hr
  go_enter Tryd.func25, Tryd.ntmps25
  go_wp2_with fail
  go_loopw [1, 5] (fun l i wr => ∃ k : Nat, k ≤ n ∧ i = .int .i64 k ∧ l = .int .i64 ((m + k : Nat) : Int) ∧ Chg w wr lo hi ∧ ∃ cs, Own wr lo hi 9 1 (.slice A n c) n cs ∧ Hid (cs.take (k * 1) = ((List.range n).take k).flatMap fun i => [.string (mkText (m + i))])) (fun _ i _ => n - (intOf i).toNat)
  case atStart => exact ⟨0, Nat.zero_le _, rfl, by simp, Chg.refl _ _ _, xs, h, by show _ = _; simp⟩
  case round =>
    clear h
    obtain ⟨k, hk, rfl, rfl, HC, cs, own0, HT⟩ := hrel
    by_cases hlt : k < n
    · obtain ⟨g, rfl, hg1, hg2⟩ := own0.at_ (by omega)
      have HT' : Hid ((setL cs (k * 1) [.string (mkText (m + k))]).take ((k + 1) * 1) = ((List.range n).take (k + 1)).flatMap fun i => [.string (mkText (m + i))]) := by
        have := take_flat (us := List.range n) (enc := fun i => [.string (mkText (m + i))]) (fun _ => rfl) (i := k) (by simpa using hlt) (by exact HT.out) (by rw [own0.1.1]; simp)
        rw [List.getElem_range] at this
        exact this
      have HS : w.heap.size ≤ _ := HC.size
      go_wp2_with fail
      refine (markText_any _ _ (by omega) (by omega)).mono ?_
      rintro e w0 ⟨rfl, hb0⟩
      have own0' := own0.grow' hb0
      have HC0' := HC.grow hb0
      have ht0 : ((m : Int) + (k : Int)).toNat = m + k := by omega
      rw [ht0]; clear ht0
      obtain ⟨v0, -, d0⟩ := own_cell own0'.1 (j := k * 1) (by omega)
      have f0 := own0'.1.frozenAt (k * 1)
      have own1 := own0'.set_in (j := k * 1) (.string (mkText (m + k)))
      have HC1 := HC0'.set (b := g) (o := k * 1) (.inl ⟨hg1, hg2⟩) (.string (mkText (m + k)))
      simp only [Nat.mul_one] at d0 f0 HC1
      go_wp2
      go_roundw
      case rel => exact ⟨k + 1, by omega, by go_num, by go_num, HC1, _, by rw [Nat.mul_one] at own1; exact own1, by have h2 := HT'.out; simp only [setL, Nat.mul_one] at h2; show List.take ((k + 1) * 1) _ = _; rw [Nat.mul_one]; exact h2⟩
      case measure => simp [intOf]; omega
    · have HF : Hid (cs = marksStr m n) := by
        have h2 := HT.out
        rw [show k = n by omega] at h2
        exact take_flat_end (us := List.range n) (by simp) (by exact h2) own0.1.1
      have HK : Hid (k = n) := by show _ = _; omega
      go_wp2_with fail
      go_ret
      exact ⟨by rw [← HK.out]; simp, by rw [← HF.out]; exact own0, HC⟩
theorem markStrS_hp (A : Option Addr) (n c m : Nat) (mi : Int) (hmi : mi = (m : Int)) (xs : List Value) (w w0 : World) (L L' : List Ent) (H : Hp w0 w L) (hr : Rep L (row 9 1 (.slice A n c) n xs) (row 9 1 (.slice A n c) n (marksStr m n)) L') (h0 : 0 < m) (hm : m + n * 1 ≤ 1125899906842624) :
    Calls Tryd.prog 25 #[.slice A n c, .int .i64 mi] w fun e w' => e = .returned (.int .i64 ((m + n * 1 : Nat) : Int)) ∧ Hp w0 w' L' :=
  by subst hmi; exact (markStrS_any A n c m _ _ xs w (H.ownM hr.mem).1 h0 hm).mono fun e w' ⟨he, h, hc⟩ => ⟨he, H.chgM hr h hc⟩
set_option maxHeartbeats 4000000 in
theorem heldStrS_hp (A : Option Addr) (n c m : Nat) (mi : Int) (hmi : mi = (m : Int)) (w : World) (hr : Rd w w.heap.size 1 A n c (marksStr m n)) (h0 : 0 < m) (hm : m + n * 1 ≤ 1125899906842624) :
    Calls Tryd.prog 26 #[.slice A n c, .int .i64 mi] w fun e w' => e = .returned (.int .i64 ((m + n * 1 : Nat) : Int)) ∧ Below w.heap.size w w' := by
  subst hmi
  have hc := hr.2.1
  have hmx := hr.2.2.1
  unfold maxLen at hmx
  have H := Hp.nil w
  go_enter Tryd.func26, Tryd.ntmps26
  go_wp2_with fail
  go_loopw [1, 5] (fun l i wr => ∃ k : Nat, k ≤ n ∧ i = .int .i64 k ∧ l = .int .i64 ((m + k : Nat) : Int) ∧ Hid (Hp w wr [])) (fun _ i _ => n - (intOf i).toNat)
  case atStart => exact ⟨0, Nat.zero_le _, rfl, by simp, H⟩
  case round =>
    clear H
    obtain ⟨k, hk, rfl, rfl, HP⟩ := hrel
    have H := HP.out
    have hz := H.b.size
    by_cases hlt : k < n
    · obtain ⟨b, off, rfl, hb, hcell⟩ := Rd.elem (us := List.range n) hr (fun _ => rfl) (by simp) hlt
      rw [List.getElem_range] at hcell
      have hk1 : (k : Int) < (n : Int) := by omega
      have hk0 : (0 : Int) ≤ (k : Int) := by omega
      have c0 := H.b.cell (p := ⟨b, off + k * 1 + 0, none⟩) hb |>.trans (hcell 0 _ rfl)
      have hcl := hcell 0 _ rfl
      simp only [Nat.add_zero, Nat.mul_one] at c0 hcl
      clear hcell
      have ht0 : ((m : Int) + (k : Int)).toNat = m + k := by omega
      have HT0 := Lib.hid ht0; clear ht0
      have hq : ∀ W, Below w.heap.size w W → W.cell? ⟨b, off + k, none⟩ = some (.string (mkText (m + k))) := fun W h => (h.cell (p := ⟨b, off + k, none⟩) hb).trans hcl
      go_wp2_with fail
      go_region_with (go_at_call 59; refine (markText_any _ _ (by omega) (by omega)).mono ?_; rintro e w0 ⟨rfl, hb0⟩; rw [HT0.out]; replace H := Hp.step (by repeat (first | (with_reducible exact H) | (with_reducible apply Hp.alloc) | (with_reducible apply Hp.set) | (with_reducible apply Hp.drew) | (with_reducible apply Hp.drewN) | (with_reducible apply Hp.bytesW) | (with_reducible exact Upd.here) | (with_reducible exact Upd.hereR) | (with_reducible apply Upd.there) | (with_reducible apply Sz.alloc) | (with_reducible apply Sz.set) | (with_reducible apply Sz.drew) | (with_reducible apply Sz.drewN) | (with_reducible apply Sz.bytesW) | (with_reducible assumption) | (with_reducible exact Sz.base _))) hb0; (try simp only [List.set_cons_zero, List.set_cons_succ, List.cons_append, List.nil_append] at H); have y0 := hq _ H.b)
      all_goals
        go_wp2_with fail
        go_roundw
        case rel => exact ⟨k + 1, by omega, by go_num, by go_num, Lib.hid (by repeat (first | (with_reducible exact H) | (with_reducible apply Hp.alloc) | (with_reducible apply Hp.set) | (with_reducible apply Hp.drew) | (with_reducible apply Hp.drewN) | (with_reducible apply Hp.bytesW) | (with_reducible exact Upd.here) | (with_reducible exact Upd.hereR) | (with_reducible apply Upd.there) | (with_reducible apply Sz.alloc) | (with_reducible apply Sz.set) | (with_reducible apply Sz.drew) | (with_reducible apply Sz.drewN) | (with_reducible apply Sz.bytesW) | (with_reducible assumption) | (with_reducible exact Sz.base _)))⟩
        case measure => simp [intOf]; omega
    · have HK : Hid (k = n) := by show _ = _; omega
      go_wp2_with fail
      go_ret
      exact ⟨by rw [← HK.out]; simp, Hp.b (by repeat (first | (with_reducible exact H) | (with_reducible apply Hp.alloc) | (with_reducible apply Hp.set) | (with_reducible apply Hp.drew) | (with_reducible apply Hp.drewN) | (with_reducible apply Hp.bytesW) | (with_reducible exact Upd.here) | (with_reducible exact Upd.hereR) | (with_reducible apply Upd.there) | (with_reducible apply Sz.alloc) | (with_reducible apply Sz.set) | (with_reducible apply Sz.drew) | (with_reducible apply Sz.drewN) | (with_reducible apply Sz.bytesW) | (with_reducible assumption) | (with_reducible exact Sz.base _)))⟩
end Go.Proofs.YtklmcbabpncfmaaDoor
