/- Lists of numbers: whether one is there, copies (the reference's and package slices'). No condition. -/
import Derived.Test.YtlblkpcjknjijaaGreatDoorM2
import Derived.Test.YtlblkpcjknjijaaGreatDoorShelf
set_option linter.unusedVariables false
set_option linter.unusedSimpArgs false
namespace Go.Proofs.YtlblkpcjknjijaaGreatDoor
open Go.RowKit
set_option linter.unusedVariables false
set_option linter.unusedSimpArgs false
theorem Rd.intAt {w : World} {b off n c : Nat} {us : List Int} (hr : Rd w w.heap.size 1 (some ⟨b, off, none⟩) n c (us.flatMap encInt)) (hn : us.length = n) {k : Nat} (hk : k < us.length) (W : World) (hb : Below w.heap.size w W) : W.cell? ⟨b, off + k, none⟩ = some (.int .i64 us[k]) := by
  obtain ⟨b', off', hA', hb', hcell⟩ := hr.elem encInt_len hn (i := k) (by omega)
  obtain ⟨rfl, rfl⟩ : b = b' ∧ off = off' := by simpa using hA'
  exact (hb.cell (p := ⟨b, off + k, none⟩) hb').trans (by have := hcell 0 _ rfl; simpa using this)
theorem contains_at {us : List Int} {k : Nat} (hk : k < us.length) {x : Int} (h : us[k] = x) : hasI us x = true := by
  rw [hasI_iff, ← h]; exact List.getElem_mem hk
theorem contains_snoc {us : List Int} {k : Nat} (hk : k < us.length) {x : Int} (h : ¬ us[k] = x) (h1 : hasI (us.take k) x = false) : hasI (us.take (k + 1)) x = false := by
  rw [← Bool.not_eq_true, hasI_iff] at h1 ⊢
  rw [List.take_succ_eq_append_getElem hk, List.mem_append]
  rintro (h2 | h2)
  · exact h1 h2
  · have h3 : x = us[k] := by simpa using h2
    exact h h3.symm
set_option maxHeartbeats 2000000 in
theorem l01Has_any (A : Option Addr) (n c : Nat) (us : List Int) (x : Int) (w : World) (hr : Rd w w.heap.size 1 A n c (us.flatMap encInt)) (hn : us.length = n) :
    Calls Tryz.prog 37 #[.slice A n c, .int .i64 x] w fun e w' => e = .returned (.bool (hasI us x)) ∧ Below w.heap.size w w' := by
  have hc := hr.2.1
  have hm := hr.2.2.1
  unfold maxLen at hm
  go_enter Tryz.func37, Tryz.ntmps37
  go_wp2_with fail
  go_loop [5] (fun i => ∃ k : Nat, k ≤ n ∧ i = .int .i64 k ∧ Hid (hasI (us.take k) x = false)) (fun i => n - (intOf i).toNat)
  case atStart => exact ⟨0, Nat.zero_le _, rfl, rfl⟩
  case round =>
    obtain ⟨k, hk, rfl, HA⟩ := hrel
    by_cases hlt : k < n
    · obtain ⟨b, off, rfl, hb, -⟩ := hr.elem encInt_len hn hlt
      have c0 := Rd.intAt hr hn (k := k) (by omega) w (Below.refl _ _)
      have hk1 : (k : Int) < (n : Int) := by omega
      have hk0 : (0 : Int) ≤ (k : Int) := by omega
      by_cases h : (us[k]'(by omega)) = x
      · have HN : Hid (hasI us x = true) := contains_at (by omega) h
        generalize (us[k]'(by omega)) = y at *
        go_wp2_with fail
        go_ret
        exact ⟨by rw [HN.out]; rfl, Below.refl _ _⟩
      · have HN : Hid (hasI (us.take (k + 1)) x = false) := contains_snoc (by omega) h HA.out
        generalize (us[k]'(by omega)) = y at *
        go_wp2_with fail
        go_round
        case rel => exact ⟨k + 1, by omega, by go_num, HN⟩
        case measure => simp [intOf]; omega
    · have HN : Hid (hasI us x = false) := by have h := HA.out; rwa [List.take_of_length_le (by omega)] at h
      go_wp2_with fail
      go_ret
      exact ⟨by rw [HN.out]; rfl, Below.refl _ _⟩
set_option maxHeartbeats 4000000 in
set_option maxRecDepth 10000 in
theorem l01Copy_hp (A : Option Addr) (n c : Nat) (us : List Int) (w : World) (hr : Rd w w.heap.size 1 A n c (us.flatMap encInt)) (hn : us.length = n) (hb20 : n ≤ 1048576) :
    Calls Tryz.prog 27 #[.slice A n c] w fun e w' => ∃ A' c', e = .returned (.slice A' us.length c') ∧ Hp w w' [rInt A' c' us] := by
  obtain ⟨i0, hi0, hz0, hz1, hz2⟩ := info_parts Tryz.infoInt
  have hc := hr.2.1
  have hm := hr.2.2.1
  unfold maxLen at hm
  have H := Hp.nil w
  go_enter Tryz.func27, Tryz.ntmps27
  go_wp2_with fail
  have HH := Lib.hid H; clear H
  go_loopw [4, 3] (fun i vL wr => ∃ k : Nat, k ≤ n ∧ i = .int .i64 k ∧ ∃ A1 c1, vL = .slice A1 (us.take k).length c1 ∧ Hid (Hp w wr [rInt A1 c1 (us.take k)])) (fun i _ _ => n - (intOf i).toNat)
  case atStart =>
    have H := HH.out
    refine ⟨0, Nat.zero_le _, rfl, some ⟨w.heap.size, 0, none⟩, 0, rfl, ?_⟩
    exact Lib.hid (Hp.give (Hp.boxRow (by repeat (first | (with_reducible exact H) | (with_reducible apply Hp.alloc) | (with_reducible apply Hp.set) | (with_reducible apply Hp.drew) | (with_reducible apply Hp.drewN) | (with_reducible apply Hp.bytesW) | (with_reducible exact Upd.here) | (with_reducible exact Upd.hereR) | (with_reducible apply Upd.there) | (with_reducible apply Sz.alloc) | (with_reducible apply Sz.set) | (with_reducible apply Sz.drew) | (with_reducible apply Sz.drewN) | (with_reducible apply Sz.bytesW) | (with_reducible assumption) | (with_reducible exact Sz.base _))) 0 1 0 0 (by rfl) (by rfl) (Nat.le_refl _) (Nat.zero_le _)) [0] (by decide) (by rfl))
  case round =>
    clear HH
    obtain ⟨k, hk, rfl, A1, c1, rfl, HP⟩ := hrel
    have H := HP.out
    have htl : (us.take k).length = k := by rw [List.length_take]; omega
    by_cases hlt : k < n
    · obtain ⟨b, off, rfl, hb, -⟩ := hr.elem encInt_len hn hlt
      have c0 := Rd.intAt hr hn (k := k) (by omega) wr H.b
      have HT := Lib.hid (List.take_succ_eq_append_getElem (show k < us.length by omega))
      generalize (us[k]'(by omega)) = x at *
      generalize us.take k = ls at *
      subst htl
      have F := H.facts; simp only [Facts, NeF, box, row, reg, cellsF, rInt, ne_eq, true_and, and_true, Nat.reduceAdd, Nat.zero_add] at F
      have hk1 : (ls.length : Int) < (n : Int) := by omega
      have hk0 : (0 : Int) ≤ (ls.length : Int) := by omega
      have hl : ls.length + 1 ≤ maxLen := by unfold maxLen; omega
      have hbw : b < wr.heap.size := Nat.lt_of_lt_of_le hb H.b.size
      have hbe : ¬ b = wr.heap.size ∧ ¬ wr.heap.size = b := by omega
      go_wp2_with (first | (at_builtin; refine wpList_append_lies _ (by rfl) _ _ 26 (by rfl) w.heap.size 3 i0 _ 1 _ Tryz.underlying26 hi0 hz0 hz1 hz2 (by rfl) (by decide) (.slice A1 (ls.length) c1) (ls.length) _ (by rfl) (Hp.rowM (by repeat (first | (with_reducible exact H) | (with_reducible apply Hp.alloc) | (with_reducible apply Hp.set) | (with_reducible apply Hp.drew) | (with_reducible apply Hp.drewN) | (with_reducible apply Hp.bytesW) | (with_reducible exact Upd.here) | (with_reducible exact Upd.hereR) | (with_reducible apply Upd.there) | (with_reducible apply Sz.alloc) | (with_reducible apply Sz.set) | (with_reducible apply Sz.drew) | (with_reducible apply Sz.drewN) | (with_reducible apply Sz.bytesW) | (with_reducible assumption) | (with_reducible exact Sz.base _))) (by repeat (first | (with_reducible exact List.mem_cons_self) | (with_reducible apply List.mem_cons_of_mem)))) ⟨wr.heap.size, 0, none⟩ 1 1 (encInt x) (by rfl) (by rfl) (Hp.news (by repeat (first | (with_reducible exact H) | (with_reducible apply Hp.alloc) | (with_reducible apply Hp.set) | (with_reducible apply Hp.drew) | (with_reducible apply Hp.drewN) | (with_reducible apply Hp.bytesW) | (with_reducible exact Upd.here) | (with_reducible exact Upd.hereR) | (with_reducible apply Upd.there) | (with_reducible apply Sz.alloc) | (with_reducible apply Sz.set) | (with_reducible apply Sz.drew) | (with_reducible apply Sz.drewN) | (with_reducible apply Sz.bytesW) | (with_reducible assumption) | (with_reducible exact Sz.base _))) 0 (by rfl)) (oneInt x) (by decide) hl (by omega) (Hp.b (by repeat (first | (with_reducible exact H) | (with_reducible apply Hp.alloc) | (with_reducible apply Hp.set) | (with_reducible apply Hp.drew) | (with_reducible apply Hp.drewN) | (with_reducible apply Hp.bytesW) | (with_reducible exact Upd.here) | (with_reducible exact Upd.hereR) | (with_reducible apply Upd.there) | (with_reducible apply Sz.alloc) | (with_reducible apply Sz.set) | (with_reducible apply Sz.drew) | (with_reducible apply Sz.drewN) | (with_reducible apply Sz.bytesW) | (with_reducible assumption) | (with_reducible exact Sz.base _)))).size _ rfl ?_; intro g cap wa hown hgrow hat hlt1; have H5 := Hp.appM (by repeat (first | (with_reducible exact H) | (with_reducible apply Hp.alloc) | (with_reducible apply Hp.set) | (with_reducible apply Hp.drew) | (with_reducible apply Hp.drewN) | (with_reducible apply Hp.bytesW) | (with_reducible exact Upd.here) | (with_reducible exact Upd.hereR) | (with_reducible apply Upd.there) | (with_reducible apply Sz.alloc) | (with_reducible apply Sz.set) | (with_reducible apply Sz.drew) | (with_reducible apply Sz.drewN) | (with_reducible apply Sz.bytesW) | (with_reducible assumption) | (with_reducible exact Sz.base _))) (by repeat (first | (with_reducible exact Rep.here) | (with_reducible apply Rep.there))) hown hgrow hat rfl hlt1; (try simp only [List.set_cons_zero, List.set_cons_succ, List.cons_append, List.nil_append] at H5); have FA := H5.facts; simp only [Facts, NeF, box, row, reg, cellsF, rInt, ne_eq, true_and, and_true, Nat.reduceAdd, Nat.zero_add] at FA))
      rw [rInt_snoc] at H5
      go_roundw
      case rel => exact ⟨ls.length + 1, by omega, by go_num, some ⟨g, 0, none⟩, cap, by rw [HT.out]; simp, by rw [HT.out]; exact Lib.hid (by simpa using (by refine Hp.sel (by repeat (first | (with_reducible exact H5) | (with_reducible apply Hp.alloc) | (with_reducible apply Hp.set) | (with_reducible apply Hp.drew) | (with_reducible apply Hp.drewN) | (with_reducible apply Hp.bytesW) | (with_reducible exact Upd.here) | (with_reducible exact Upd.hereR) | (with_reducible apply Upd.there) | (with_reducible apply Sz.alloc) | (with_reducible apply Sz.set) | (with_reducible apply Sz.drew) | (with_reducible apply Sz.drewN) | (with_reducible apply Sz.bytesW) | (with_reducible assumption) | (with_reducible exact Sz.base _))) ?_; (try simp only [List.set_cons_zero, List.set_cons_succ]); exact (by repeat (first | (with_reducible exact Sel.nil) | (with_reducible apply Sel.cons) | (with_reducible exact Del.here) | (with_reducible apply Del.there)))))⟩
      case measure => simp [intOf]; omega
    · have HF : Hid (us.take k = us) := by show _ = _; exact List.take_of_length_le (by omega)
      rw [HF.out] at H ⊢
      have F := H.facts; simp only [Facts, NeF, box, row, reg, cellsF, rInt, ne_eq, true_and, and_true, Nat.reduceAdd, Nat.zero_add] at F
      go_wp2_with fail
      go_ret
      exact ⟨A1, c1, rfl, (by refine Hp.sel (by repeat (first | (with_reducible exact H) | (with_reducible apply Hp.alloc) | (with_reducible apply Hp.set) | (with_reducible apply Hp.drew) | (with_reducible apply Hp.drewN) | (with_reducible apply Hp.bytesW) | (with_reducible exact Upd.here) | (with_reducible exact Upd.hereR) | (with_reducible apply Upd.there) | (with_reducible apply Sz.alloc) | (with_reducible apply Sz.set) | (with_reducible apply Sz.drew) | (with_reducible apply Sz.drewN) | (with_reducible apply Sz.bytesW) | (with_reducible assumption) | (with_reducible exact Sz.base _))) ?_; (try simp only [List.set_cons_zero, List.set_cons_succ]); exact (by repeat (first | (with_reducible exact Sel.nil) | (with_reducible apply Sel.cons) | (with_reducible exact Del.here) | (with_reducible apply Del.there))))⟩
theorem zs_getD {zs : List Int} {j : Nat} (hj : j < zs.length) : zs.getD j 0 = zs[j] := by simp [List.getD, hj]
theorem containsInt_any (A : Option Addr) (n c : Nat) (us : List Int) (x : Int) (w : World) (hr : Rd w w.heap.size 1 A n c (us.flatMap encInt)) (hn : us.length = n) :
    Calls Tryz.prog 45 #[.slice A n c, .int .i64 x] w fun e w' => e = .returned (.bool (hasI us x)) ∧ w' = w := by
  have hc := hr.2.1
  have hm := hr.2.2.1
  unfold maxLen at hm
  by_cases h0 : n = 0
  · subst h0
    have hu : us = [] := List.eq_nil_of_length_eq_zero hn
    subst hu
    exact (Tryz.slices_Contains_int_empty A c x w).mono fun e w' h => h
  · obtain ⟨b, off, rfl, hb, -⟩ := hr.elem encInt_len hn (i := 0) (by omega)
    refine (Tryz.slices_Contains_int b off n c us x w (by omega) (by omega) (fun j hj => by rw [zs_getD hj]; exact Rd.intAt hr hn hj w (Below.refl _ _))).mono ?_
    rintro e w' ⟨h1, h2⟩
    rw [List.take_of_length_le (by omega)] at h1
    exact ⟨h1, h2⟩
end Go.Proofs.YtlblkpcjknjijaaGreatDoor
