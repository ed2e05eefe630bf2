/- FnUsers: the statement on users: the walk. No condition. -/
import Derived.Test.YtaaloiloklnbiaaDoorDrawM
import Derived.Test.YtaaloiloklnbiaaDoorUsersP
import Derived.Test.YtaaloiloklnbiaaDoorMakeJ
import Derived.Test.YtaaloiloklnbiaaDoorFarE
import Derived.Deep.RegionHeld3
namespace Go.Proofs.YtaaloiloklnbiaaDoor
open Go.RowKit
set_option linter.unusedVariables false
set_option linter.unusedSimpArgs false
theorem passF_size (key : Int) (s : ByteArray) : (passF key s).size ≤ maxLen := by
  rw [passF]
  split
  · obtain ⟨d, -, hd, he⟩ := dig_nat (passL key s)
    rw [he]
    have := dec_len_le 18 d (by show d < 10000000000000000000; omega)
    have e2 : (ByteArray.mk (Go.Lib.decDigits d).toArray).size = (Go.Lib.decDigits d).length := by simp [ByteArray.size]
    rw [e2]; unfold maxLen; omega
  · unfold maxLen; decide
theorem uL_fits {nm pf : ByteArray} {ttl lim key : Int} {m i : Nat} (hr : roleOk nm pf ttl lim = true) : ∀ u ∈ uL pf key m i, UserFits u := by
  intro u hu
  obtain ⟨j, -, rfl⟩ := uL_mem hu
  have h1 := nm_size (nameL_ok hr (m + j + 1))
  exact ⟨by show (nameL pf (m + j + 1)).size ≤ maxLen; unfold maxLen; omega, passF_size _ _⟩
theorem bigU_any (A : Option Addr) (n c : Nat) (w : World) (hm : n ≤ maxLen) :
    Calls Tryd.prog 5 #[.slice A n c] w fun e w' => e = .returned (.bool (decide (1048576 < n))) ∧ w = w' := by
  unfold maxLen at hm
  by_cases h : 1048576 < n
  · go_enter Tryd.func5, Tryd.ntmps5
    go_wp2
    go_ret
    exact ⟨by simp; omega, rfl⟩
  · go_enter Tryd.func5, Tryd.ntmps5
    go_wp2
    go_ret
    exact ⟨by simp; omega, rfl⟩
set_option maxHeartbeats 1000000 in
theorem at_any (A : Option Addr) (n c : Nat) (bs : List UInt8) (i : Nat) (w : World) (hr : Rd w w.heap.size 1 A n c (bs.flatMap encByte)) (hn : bs.length = n) (hi : i ≤ 1) (h20 : n ≤ 1048576) :
    Calls Tryd.prog 8 #[.slice A n c, .int .i64 i] w fun e w' => ∃ x : Int, e = .returned (.int .i64 x) ∧ (0 ≤ x ∧ x ≤ 255) ∧ Below w.heap.size w w' := by
  have hc := hr.2.1
  have hm := hr.2.2.1
  unfold maxLen at hm
  have H := Hp.nil w
  by_cases hlt : i < n
  · obtain ⟨b, off, rfl, hb, hcell⟩ := hr.elem encByte_len hn hlt
    have c0 := hcell 0 _ rfl
    simp only [Nat.add_zero, Nat.mul_one] at c0
    have hx := (bs[i]'(by omega)).toNat_lt
    clear hcell
    generalize (bs[i]'(by omega)) = y at *
    have hk1 : (i : Int) < (n : Int) := by omega
    have hk0 : (0 : Int) ≤ (i : Int) := by omega
    go_enter Tryd.func8, Tryd.ntmps8
    go_wp2_with fail
    go_ret
    exact ⟨y.toNat, rfl, by omega, Hp.b (by repeat (first | (with_reducible exact H) | (with_reducible apply Hp.alloc) | (with_reducible apply Hp.set) | (with_reducible apply Hp.drew) | (with_reducible apply Hp.drewN) | (with_reducible apply Hp.bytesW) | (with_reducible exact Upd.here) | (with_reducible exact Upd.hereR) | (with_reducible apply Upd.there) | (with_reducible apply Sz.alloc) | (with_reducible apply Sz.set) | (with_reducible apply Sz.drew) | (with_reducible apply Sz.drewN) | (with_reducible apply Sz.bytesW) | (with_reducible assumption) | (with_reducible exact Sz.base _)))⟩
  · have hk1 : ¬ (i : Int) < (n : Int) := by omega
    have w1 : IntKind.i64.wrap ((i : Int) * 13) = (i : Int) * 13 := by rw [IntKind.wrap_i64]; omega
    have w2 : IntKind.i64.wrap ((n : Int) * 5) = (n : Int) * 5 := by rw [IntKind.wrap_i64]; omega
    have w3 : IntKind.i64.wrap ((i : Int) * 13 + (n : Int) * 5) = (i : Int) * 13 + (n : Int) * 5 := by rw [IntKind.wrap_i64]; omega
    have e1 : ((i : Int) * 13 + (n : Int) * 5).tmod 256 = ((i : Int) * 13 + (n : Int) * 5) % 256 := Int.tmod_eq_emod_of_nonneg (by omega)
    go_enter Tryd.func8, Tryd.ntmps8
    go_wp2_with fail
    go_ret
    exact ⟨_, rfl, by first | omega | (rw [e1]; omega), Hp.b (by repeat (first | (with_reducible exact H) | (with_reducible apply Hp.alloc) | (with_reducible apply Hp.set) | (with_reducible apply Hp.drew) | (with_reducible apply Hp.drewN) | (with_reducible apply Hp.bytesW) | (with_reducible exact Upd.here) | (with_reducible exact Upd.hereR) | (with_reducible apply Upd.there) | (with_reducible apply Sz.alloc) | (with_reducible apply Sz.set) | (with_reducible apply Sz.drew) | (with_reducible apply Sz.drewN) | (with_reducible apply Sz.bytesW) | (with_reducible assumption) | (with_reducible exact Sz.base _)))⟩
set_option maxHeartbeats 16000000 in
set_option maxRecDepth 100000 in
theorem lawUsers (A : Option Addr) (n c : Nat) (bs : List UInt8) (w : World) (hr : Rd w w.heap.size 1 A n c (bs.flatMap encByte)) (hn : bs.length = n) (ht : tabOk w) :
    Calls Tryd.prog 3 #[.slice A n c] w fun e w' => e = .returned (.bool true) ∧ Below w.heap.size w w' := by
  have H := Hp.nil w
  have hnm9 : n ≤ maxLen := Nat.le_trans hr.2.1 hr.2.2.1
  by_cases hb : 1048576 < n
  · go_enter Tryd.func3, Tryd.ntmps3
    go_wp2_with (go_at_call 5; refine (bigU_any _ _ _ _ hnm9).mono ?_; rintro e w' ⟨rfl, rfl⟩)
    go_ret
    exact ⟨rfl, Hp.b (by repeat (first | (with_reducible exact H) | (with_reducible apply Hp.alloc) | (with_reducible apply Hp.set) | (with_reducible apply Hp.drew) | (with_reducible apply Hp.drewN) | (with_reducible apply Hp.bytesW) | (with_reducible exact Upd.here) | (with_reducible exact Upd.hereR) | (with_reducible apply Upd.there) | (with_reducible apply Sz.alloc) | (with_reducible apply Sz.set) | (with_reducible apply Sz.drew) | (with_reducible apply Sz.drewN) | (with_reducible apply Sz.bytesW) | (with_reducible assumption) | (with_reducible exact Sz.base _)))⟩
  go_enter Tryd.func3, Tryd.ntmps3
  go_wp2_with (go_at_call 5; refine (bigU_any _ _ _ _ hnm9).mono ?_; rintro e w' ⟨rfl, rfl⟩)
  refine (DrawMakeUser_hp A n c bs _ hr hn).mono ?_
  rintro e w1 ⟨A0, d0, k0, y1, y2, s1, s2, t, l, key, rfl, hs1, hs2, hb1⟩
  replace H := Hp.step (by repeat (first | (with_reducible exact H) | (with_reducible apply Hp.alloc) | (with_reducible apply Hp.set) | (with_reducible apply Hp.drew) | (with_reducible apply Hp.drewN) | (with_reducible apply Hp.bytesW) | (with_reducible exact Upd.here) | (with_reducible exact Upd.hereR) | (with_reducible apply Upd.there) | (with_reducible apply Sz.alloc) | (with_reducible apply Sz.set) | (with_reducible apply Sz.drew) | (with_reducible apply Sz.drewN) | (with_reducible apply Sz.bytesW) | (with_reducible assumption) | (with_reducible exact Sz.base _))) hb1; (try simp only [List.set_cons_zero, List.set_cons_succ, List.cons_append, List.nil_append] at H); clear hb1
  (try have F := H.facts; simp only [Facts, NeF, box, row, reg, cellsF, rUser, ne_eq, true_and, and_true, Nat.reduceAdd, Nat.zero_add] at F)
  have hz1 : s1.size ≤ maxLen := by unfold maxLen; omega
  have hz2 : s2.size ≤ maxLen := by unfold maxLen; omega
  cases h1 : roleOk s1 s2 t l with
  | false =>
    go_wp2_with (go_at_call 7; refine (specRoleOk_any s1 s2 t l _ hz1 hz2).mono ?_; rintro e w2 ⟨rfl, hb2⟩; rw [h1]; replace H := Hp.step (by repeat (first | (with_reducible exact H) | (with_reducible apply Hp.alloc) | (with_reducible apply Hp.set) | (with_reducible apply Hp.drew) | (with_reducible apply Hp.drewN) | (with_reducible apply Hp.bytesW) | (with_reducible exact Upd.here) | (with_reducible exact Upd.hereR) | (with_reducible apply Upd.there) | (with_reducible apply Sz.alloc) | (with_reducible apply Sz.set) | (with_reducible apply Sz.drew) | (with_reducible apply Sz.drewN) | (with_reducible apply Sz.bytesW) | (with_reducible assumption) | (with_reducible exact Sz.base _))) hb2; (try simp only [List.set_cons_zero, List.set_cons_succ, List.cons_append, List.nil_append] at H); clear hb2; (try clear F); have F := H.facts; simp only [Facts, NeF, box, row, reg, cellsF, rUser, ne_eq, true_and, and_true, Nat.reduceAdd, Nat.zero_add] at F)
    go_ret
    exact ⟨rfl, Hp.b (by repeat (first | (with_reducible exact H) | (with_reducible apply Hp.alloc) | (with_reducible apply Hp.set) | (with_reducible apply Hp.drew) | (with_reducible apply Hp.drewN) | (with_reducible apply Hp.bytesW) | (with_reducible exact Upd.here) | (with_reducible exact Upd.hereR) | (with_reducible apply Upd.there) | (with_reducible apply Sz.alloc) | (with_reducible apply Sz.set) | (with_reducible apply Sz.drew) | (with_reducible apply Sz.drewN) | (with_reducible apply Sz.bytesW) | (with_reducible assumption) | (with_reducible exact Sz.base _)))⟩
  | true =>
  by_cases hk0 : key < 0
  · go_wp2_with (go_at_call 7; refine (specRoleOk_any s1 s2 t l _ hz1 hz2).mono ?_; rintro e w2 ⟨rfl, hb2⟩; rw [h1]; replace H := Hp.step (by repeat (first | (with_reducible exact H) | (with_reducible apply Hp.alloc) | (with_reducible apply Hp.set) | (with_reducible apply Hp.drew) | (with_reducible apply Hp.drewN) | (with_reducible apply Hp.bytesW) | (with_reducible exact Upd.here) | (with_reducible exact Upd.hereR) | (with_reducible apply Upd.there) | (with_reducible apply Sz.alloc) | (with_reducible apply Sz.set) | (with_reducible apply Sz.drew) | (with_reducible apply Sz.drewN) | (with_reducible apply Sz.bytesW) | (with_reducible assumption) | (with_reducible exact Sz.base _))) hb2; (try simp only [List.set_cons_zero, List.set_cons_succ, List.cons_append, List.nil_append] at H); clear hb2; (try clear F); have F := H.facts; simp only [Facts, NeF, box, row, reg, cellsF, rUser, ne_eq, true_and, and_true, Nat.reduceAdd, Nat.zero_add] at F)
    go_ret
    exact ⟨rfl, Hp.b (by repeat (first | (with_reducible exact H) | (with_reducible apply Hp.alloc) | (with_reducible apply Hp.set) | (with_reducible apply Hp.drew) | (with_reducible apply Hp.drewN) | (with_reducible apply Hp.bytesW) | (with_reducible exact Upd.here) | (with_reducible exact Upd.hereR) | (with_reducible apply Upd.there) | (with_reducible apply Sz.alloc) | (with_reducible apply Sz.set) | (with_reducible apply Sz.drew) | (with_reducible apply Sz.drewN) | (with_reducible apply Sz.bytesW) | (with_reducible assumption) | (with_reducible exact Sz.base _)))⟩
  by_cases hk1 : 1099511627776 < key
  · go_wp2_with (go_at_call 7; refine (specRoleOk_any s1 s2 t l _ hz1 hz2).mono ?_; rintro e w2 ⟨rfl, hb2⟩; rw [h1]; replace H := Hp.step (by repeat (first | (with_reducible exact H) | (with_reducible apply Hp.alloc) | (with_reducible apply Hp.set) | (with_reducible apply Hp.drew) | (with_reducible apply Hp.drewN) | (with_reducible apply Hp.bytesW) | (with_reducible exact Upd.here) | (with_reducible exact Upd.hereR) | (with_reducible apply Upd.there) | (with_reducible apply Sz.alloc) | (with_reducible apply Sz.set) | (with_reducible apply Sz.drew) | (with_reducible apply Sz.drewN) | (with_reducible apply Sz.bytesW) | (with_reducible assumption) | (with_reducible exact Sz.base _))) hb2; (try simp only [List.set_cons_zero, List.set_cons_succ, List.cons_append, List.nil_append] at H); clear hb2; (try clear F); have F := H.facts; simp only [Facts, NeF, box, row, reg, cellsF, rUser, ne_eq, true_and, and_true, Nat.reduceAdd, Nat.zero_add] at F)
    go_ret
    exact ⟨rfl, Hp.b (by repeat (first | (with_reducible exact H) | (with_reducible apply Hp.alloc) | (with_reducible apply Hp.set) | (with_reducible apply Hp.drew) | (with_reducible apply Hp.drewN) | (with_reducible apply Hp.bytesW) | (with_reducible exact Upd.here) | (with_reducible exact Upd.hereR) | (with_reducible apply Upd.there) | (with_reducible apply Sz.alloc) | (with_reducible apply Sz.set) | (with_reducible apply Sz.drew) | (with_reducible apply Sz.drewN) | (with_reducible apply Sz.bytesW) | (with_reducible assumption) | (with_reducible exact Sz.base _)))⟩
  have hkk : inR key 0 1099511627776 = true := inR_true.2 (by omega)
  have HKK := Lib.hid hkk; clear hkk
  go_wp2_with (go_at_call 7; refine (specRoleOk_any s1 s2 t l _ hz1 hz2).mono ?_; rintro e w2 ⟨rfl, hb2⟩; rw [h1]; replace H := Hp.step (by repeat (first | (with_reducible exact H) | (with_reducible apply Hp.alloc) | (with_reducible apply Hp.set) | (with_reducible apply Hp.drew) | (with_reducible apply Hp.drewN) | (with_reducible apply Hp.bytesW) | (with_reducible exact Upd.here) | (with_reducible exact Upd.hereR) | (with_reducible apply Upd.there) | (with_reducible apply Sz.alloc) | (with_reducible apply Sz.set) | (with_reducible apply Sz.drew) | (with_reducible apply Sz.drewN) | (with_reducible apply Sz.bytesW) | (with_reducible assumption) | (with_reducible exact Sz.base _))) hb2; (try simp only [List.set_cons_zero, List.set_cons_succ, List.cons_append, List.nil_append] at H); clear hb2; (try clear F); have F := H.facts; simp only [Facts, NeF, box, row, reg, cellsF, rUser, ne_eq, true_and, and_true, Nat.reduceAdd, Nat.zero_add] at F)
  have HRO := Lib.hid h1; clear h1
  refine (at_any A n c bs 0 _ (hr.grow (Hp.b (by repeat (first | (with_reducible exact H) | (with_reducible apply Hp.alloc) | (with_reducible apply Hp.set) | (with_reducible apply Hp.drew) | (with_reducible apply Hp.drewN) | (with_reducible apply Hp.bytesW) | (with_reducible exact Upd.here) | (with_reducible exact Upd.hereR) | (with_reducible apply Upd.there) | (with_reducible apply Sz.alloc) | (with_reducible apply Sz.set) | (with_reducible apply Sz.drew) | (with_reducible apply Sz.drewN) | (with_reducible apply Sz.bytesW) | (with_reducible assumption) | (with_reducible exact Sz.base _))))) hn (by omega) (by omega)).mono ?_
  rintro e w3 ⟨x, rfl, hx, q3⟩
  replace H := Hp.step (by repeat (first | (with_reducible exact H) | (with_reducible apply Hp.alloc) | (with_reducible apply Hp.set) | (with_reducible apply Hp.drew) | (with_reducible apply Hp.drewN) | (with_reducible apply Hp.bytesW) | (with_reducible exact Upd.here) | (with_reducible exact Upd.hereR) | (with_reducible apply Upd.there) | (with_reducible apply Sz.alloc) | (with_reducible apply Sz.set) | (with_reducible apply Sz.drew) | (with_reducible apply Sz.drewN) | (with_reducible apply Sz.bytesW) | (with_reducible assumption) | (with_reducible exact Sz.base _))) q3; (try simp only [List.set_cons_zero, List.set_cons_succ, List.cons_append, List.nil_append] at H); clear q3 F; have F := H.facts; simp only [Facts, NeF, box, row, reg, cellsF, rUser, ne_eq, true_and, and_true, Nat.reduceAdd, Nat.zero_add] at F
  go_wp2_with fail
  refine (at_any A n c bs 1 _ (hr.grow (Hp.b (by repeat (first | (with_reducible exact H) | (with_reducible apply Hp.alloc) | (with_reducible apply Hp.set) | (with_reducible apply Hp.drew) | (with_reducible apply Hp.drewN) | (with_reducible apply Hp.bytesW) | (with_reducible exact Upd.here) | (with_reducible exact Upd.hereR) | (with_reducible apply Upd.there) | (with_reducible apply Sz.alloc) | (with_reducible apply Sz.set) | (with_reducible apply Sz.drew) | (with_reducible apply Sz.drewN) | (with_reducible apply Sz.bytesW) | (with_reducible assumption) | (with_reducible exact Sz.base _))))) hn (by omega) (by omega)).mono ?_
  rintro e w4 ⟨y, rfl, hy, q4⟩
  replace H := Hp.step (by repeat (first | (with_reducible exact H) | (with_reducible apply Hp.alloc) | (with_reducible apply Hp.set) | (with_reducible apply Hp.drew) | (with_reducible apply Hp.drewN) | (with_reducible apply Hp.bytesW) | (with_reducible exact Upd.here) | (with_reducible exact Upd.hereR) | (with_reducible apply Upd.there) | (with_reducible apply Sz.alloc) | (with_reducible apply Sz.set) | (with_reducible apply Sz.drew) | (with_reducible apply Sz.drewN) | (with_reducible apply Sz.bytesW) | (with_reducible assumption) | (with_reducible exact Sz.base _))) q4; (try simp only [List.set_cons_zero, List.set_cons_succ, List.cons_append, List.nil_append] at H); clear q4 F; have F := H.facts; simp only [Facts, NeF, box, row, reg, cellsF, rUser, ne_eq, true_and, and_true, Nat.reduceAdd, Nat.zero_add] at F
  have hm0 : 0 ≤ x * y := Int.mul_nonneg hx.1 hy.1
  have hm1 : x * y ≤ 255 * 255 := Int.mul_le_mul hx.2 hy.2 hy.1 (by omega)
  obtain ⟨m, hm⟩ := Int.eq_ofNat_of_zero_le hm0
  have hm9 : m + 20 < 1000000 := by omega
  have hwm : IntKind.i64.wrap (x * y) = (m : Int) := by rw [hm, IntKind.wrap_i64]; omega
  clear hm0 hm1 hm
  go_wp2_with fail
  generalize hrb : w1.heap.size + 1 = rb at *
  generalize hfb : w4.heap.size = fb at *
  have hsf : Sz w4 fb := hfb
  clear hrb hfb
  have HH := Lib.hid H; clear H F
  go_loopw [7] (fun i wr => ∃ (k : Nat) (A1 : Option Addr) (d : Nat) (us : List User) (mk : Int), k ≤ 20 ∧ i = .int .i64 k ∧ Hid (us = uL s2 key m k ∧ mk = ((m + k : Nat) : Int)) ∧ Hid (Hp w wr [rUser A1 d us, box fb 26 [.slice A1 us.length d, .int .i64 0, .int .i64 mk], box rb 28 [.string s1, .string s2, .int .i64 t, .int .i64 l]])) (fun i _ => 20 - (intOf i).toNat)
  case atStart =>
    have H := HH.out
    exact ⟨0, none, 0, [], (m : Int), by omega, rfl, ⟨rfl, by simp⟩, Lib.hid (Hp.give (Hp.cons_nilRow (by repeat (first | (with_reducible exact H) | (with_reducible apply Hp.alloc) | (with_reducible apply Hp.set) | (with_reducible apply Hp.drew) | (with_reducible apply Hp.drewN) | (with_reducible apply Hp.bytesW) | (with_reducible exact Upd.here) | (with_reducible exact Upd.hereR) | (with_reducible apply Upd.there) | (with_reducible apply Sz.alloc) | (with_reducible apply Sz.set) | (with_reducible apply Sz.drew) | (with_reducible apply Sz.drewN) | (with_reducible apply Sz.bytesW) | (with_reducible assumption) | (with_reducible exact Sz.base _))) 34 2) [0, 1, 2] (by decide) (by rfl))⟩
  case round =>
    clear HH hsf
    obtain ⟨k, A1, d, us, mk, hk, rfl, HU, HP⟩ := hrel
    have H := HP.out
    have F := H.facts; simp only [Facts, NeF, box, row, reg, cellsF, rUser, ne_eq, true_and, and_true, Nat.reduceAdd, Nat.zero_add] at F
    have hfit : ∀ u ∈ us, UserFits u := by rw [HU.out.1]; exact uL_fits HRO.out
    have hul : us.length ≤ 20 := by rw [HU.out.1, uL_len]; exact hk
    have hmk : 0 ≤ mk ∧ mk ≤ 1000000 := by rw [HU.out.2]; omega
    by_cases hlt : k < 20
    · have hk1' : (k : Int) < 20 := by omega
      have HK1 : Hid (k + 1 ≤ 20 ∧ 20 - (k + 1) < 20 - k) := ⟨by omega, by omega⟩
      obtain ⟨us2, HU2⟩ : ∃ us2, Hid (us2 = uL s2 key m (k + 1)) := ⟨_, rfl⟩
      obtain ⟨mk2, HM2⟩ : ∃ mk2 : Int, Hid (mk2 = ((m + (k + 1) : Nat) : Int)) := ⟨_, rfl⟩
      obtain ⟨nm, HN⟩ : ∃ nm, Hid (nm = nameL s2 (m + k + 1)) := ⟨_, rfl⟩
      obtain ⟨ps, HPS⟩ : ∃ ps, Hid (passF key nm = ps) := ⟨_, rfl⟩
      have HMK : Hid (makeU us 0 mk s1 s2 t l key = ⟨us2, 0, mk2, ⟨nm, ps⟩, 0⟩) := by
        show _ = _
        rw [HU.out.1, HU.out.2, uL_make HRO.out HKK.out hm9 hlt, HU2.out, HM2.out, ← HPS.out, HN.out]
        rfl
      have HNM : Hid (nameF s1 s2 t l mk2 = nm) := by show _ = _; rw [HM2.out, uL_nameF HRO.out hm9 (by omega), HN.out]; rfl
      have hh1 : hasB us 0 mk nm ps = false := by rw [HU.out.1, HN.out]; exact uL_hasNot hm9 hlt _ _
      have hh2 : hasB us2 0 mk2 nm ps = true := by rw [HU2.out, HM2.out, ← HPS.out, HN.out]; exact uL_has HRO.out hm9 hlt
      have hfit2 : ∀ u ∈ us2, UserFits u := by rw [HU2.out]; exact uL_fits HRO.out
      have hul2 : us2.length ≤ 20 := by rw [HU2.out, uL_len]; omega
      have hnm : nm.size ≤ maxLen := by rw [← HNM.out]; exact nameF_size _ _ _ _ _
      have hwk : IntKind.i64.wrap (mk + 1) = mk2 := by rw [HM2.out, HU.out.2, IntKind.wrap_i64]; omega
      have HSZ : Hid (∀ u ∈ us, u.name.size ≤ maxLen) := fun u hu => (hfit u hu).name
      go_wp2_with fail
      refine (implMakeUser_hp A1 us.length d us 0 mk s1 s2 t l key _ HMK.out _ (Hp.rdM (by repeat (first | (with_reducible exact H) | (with_reducible apply Hp.alloc) | (with_reducible apply Hp.set) | (with_reducible apply Hp.drew) | (with_reducible apply Hp.drewN) | (with_reducible apply Hp.bytesW) | (with_reducible exact Upd.here) | (with_reducible exact Upd.hereR) | (with_reducible apply Upd.there) | (with_reducible apply Sz.alloc) | (with_reducible apply Sz.set) | (with_reducible apply Sz.drew) | (with_reducible apply Sz.drewN) | (with_reducible apply Sz.bytesW) | (with_reducible assumption) | (with_reducible exact Sz.base _))) (by repeat (first | (with_reducible exact List.mem_cons_self) | (with_reducible apply List.mem_cons_of_mem)))) rfl (by omega) HSZ.out hz1 hz2 (ht.on (Hp.b (by repeat (first | (with_reducible exact H) | (with_reducible apply Hp.alloc) | (with_reducible apply Hp.set) | (with_reducible apply Hp.drew) | (with_reducible apply Hp.drewN) | (with_reducible apply Hp.bytesW) | (with_reducible exact Upd.here) | (with_reducible exact Upd.hereR) | (with_reducible apply Upd.there) | (with_reducible apply Sz.alloc) | (with_reducible apply Sz.set) | (with_reducible apply Sz.drew) | (with_reducible apply Sz.drewN) | (with_reducible apply Sz.bytesW) | (with_reducible assumption) | (with_reducible exact Sz.base _)))))).mono ?_
      rintro e w5 ⟨A2, d2, rfl, h5⟩
      replace H := Hp.call (by repeat (first | (with_reducible exact H) | (with_reducible apply Hp.alloc) | (with_reducible apply Hp.set) | (with_reducible apply Hp.drew) | (with_reducible apply Hp.drewN) | (with_reducible apply Hp.bytesW) | (with_reducible exact Upd.here) | (with_reducible exact Upd.hereR) | (with_reducible apply Upd.there) | (with_reducible apply Sz.alloc) | (with_reducible apply Sz.set) | (with_reducible apply Sz.drew) | (with_reducible apply Sz.drewN) | (with_reducible apply Sz.bytesW) | (with_reducible assumption) | (with_reducible exact Sz.base _))) h5; (try simp only [List.set_cons_zero, List.set_cons_succ, List.cons_append, List.nil_append] at H); clear h5 F; have F := H.facts; simp only [Facts, NeF, box, row, reg, cellsF, rUser, ne_eq, true_and, and_true, Nat.reduceAdd, Nat.zero_add] at F
      dsimp only [MakeV]
      clear HMK HSZ
      go_wp2_with fail
      replace H := H.alloc (t := 26) (cs := [.slice A2 us2.length d2, .int .i64 0, .int .i64 mk2]) (Sz.base w5)
      replace H := H.alloc (t := 34) (cs := [.string nm, .string ps]) (Sz.alloc (Sz.base w5))
      clear F
      have hc1 : ∀ W, Hp w W [box (w5.heap.size + 1) 34 [.string nm, .string ps], box w5.heap.size 26 [.slice A2 us2.length d2, .int .i64 0, .int .i64 mk2], rUser A2 d2 us2, rUser A1 d us, box fb 26 [.slice A1 us.length d, .int .i64 0, .int .i64 mk], box rb 28 [.string s1, .string s2, .int .i64 t, .int .i64 l]] → Calls Tryd.prog 10 #[.agg #[.slice A1 us.length d, .int .i64 0, .int .i64 mk], .string nm, .string ps] W fun e w' => e = .returned (.bool false) ∧ Below W.heap.size W w' := fun W hW => by
        have h9 := implHasUser_any A1 us.length d us 0 mk nm ps W (Hp.rdM hW (by repeat (first | (with_reducible exact List.mem_cons_self) | (with_reducible apply List.mem_cons_of_mem)))) rfl hfit
        rw [hh1] at h9; exact h9
      have hc2 : ∀ W, Hp w W [box (w5.heap.size + 1) 34 [.string nm, .string ps], box w5.heap.size 26 [.slice A2 us2.length d2, .int .i64 0, .int .i64 mk2], rUser A2 d2 us2, rUser A1 d us, box fb 26 [.slice A1 us.length d, .int .i64 0, .int .i64 mk], box rb 28 [.string s1, .string s2, .int .i64 t, .int .i64 l]] → Calls Tryd.prog 10 #[.agg #[.slice A2 us2.length d2, .int .i64 0, .int .i64 mk2], .string nm, .string ps] W fun e w' => e = .returned (.bool true) ∧ Below W.heap.size W w' := fun W hW => by
        have h9 := implHasUser_any A2 us2.length d2 us2 0 mk2 nm ps W (Hp.rdM hW (by repeat (first | (with_reducible exact List.mem_cons_self) | (with_reducible apply List.mem_cons_of_mem)))) rfl hfit2
        rw [hh2] at h9; exact h9
      have HC1 := Lib.hid hc1; clear hc1
      have HC2 := Lib.hid hc2; clear hc2
      clear hh1 hh2 hfit hfit2
      (refine wp_region_quiet (C := fun W => Hp w W [box (w5.heap.size + 1) 34 [.string nm, .string ps], box w5.heap.size 26 [.slice A2 us2.length d2, .int .i64 0, .int .i64 mk2], rUser A2 d2 us2, rUser A1 d us, box fb 26 [.slice A1 us.length d, .int .i64 0, .int .i64 mk], box rb 28 [.string s1, .string s2, .int .i64 t, .int .i64 l]]) (by kernel_rfl) (by kernel_rfl) (by show Hp _ (World.drew _) _; exact (by repeat (first | (with_reducible exact H) | (with_reducible apply Hp.alloc) | (with_reducible apply Hp.set) | (with_reducible apply Hp.drew) | (with_reducible apply Hp.drewN) | (with_reducible apply Hp.bytesW) | (with_reducible exact Upd.here) | (with_reducible exact Upd.hereR) | (with_reducible apply Upd.there) | (with_reducible apply Sz.alloc) | (with_reducible apply Sz.set) | (with_reducible apply Sz.drew) | (with_reducible apply Sz.drewN) | (with_reducible apply Sz.bytesW) | (with_reducible assumption) | (with_reducible exact Sz.base _)))) ?_; (repeat (first | go_big_quiet_skip | (refine BigFrame.wpQuiet_want (by rfl) (fun K hK => ?_); unfold Oper.quiet; apply Exists.intro; refine ⟨fun W hW => ?_, hK _ ?_⟩; (focus (have G := hW.facts; simp only [Facts, NeF, box, row, reg, cellsF, rUser, ne_eq, true_and, and_true, Nat.reduceAdd, Nat.zero_add] at G; skip; go_simp; first | rfl | (go_at_call 10; (first | (with_reducible refine (HC1.out _ hW).mono ?_) | (with_reducible refine (HC2.out _ hW).mono ?_)); rintro e w' ⟨rfl, hb⟩; exact ⟨rfl, hW.step hb⟩) | (go_at_call 11; refine (implUserPass_any key nm _ hnm (ht.on hW.b)).mono ?_; rintro e w' ⟨rfl, hb⟩; rw [HPS.out]; exact ⟨rfl, hW.step hb⟩) | (go_at_call 12; refine (implUserName_any s1 s2 t l mk2 _ hz1 hz2 (ht.on hW.b)).mono ?_; rintro e w' ⟨rfl, hb⟩; rw [HNM.out]; exact ⟨rfl, hW.step hb⟩))); clear hK K; simp only [Act.put, List.setIfInBounds_toArray, List.set_cons_zero, List.set_cons_succ]))); refine wpQuiet_nil ?_; intro wq H; have F := H.facts; simp only [Facts, NeF, box, row, reg, cellsF, rUser, ne_eq, true_and, and_true, Nat.reduceAdd, Nat.zero_add] at F)
      all_goals
        go_wp2_with fail
        go_roundw
        case rel => exact ⟨k + 1, A2, d2, us2, mk2, HK1.out.1, by go_num, ⟨HU2.out, HM2.out⟩, Lib.hid (by simpa using (by refine Hp.sel (by repeat (first | (with_reducible exact H) | (with_reducible apply Hp.alloc) | (with_reducible apply Hp.set) | (with_reducible apply Hp.drew) | (with_reducible apply Hp.drewN) | (with_reducible apply Hp.bytesW) | (with_reducible exact Upd.here) | (with_reducible exact Upd.hereR) | (with_reducible apply Upd.there) | (with_reducible apply Sz.alloc) | (with_reducible apply Sz.set) | (with_reducible apply Sz.drew) | (with_reducible apply Sz.drewN) | (with_reducible apply Sz.bytesW) | (with_reducible assumption) | (with_reducible exact Sz.base _))) ?_; (try simp only [List.set_cons_zero, List.set_cons_succ]); exact (by repeat (first | (with_reducible exact Sel.nil) | (with_reducible apply Sel.cons) | (with_reducible exact Del.here) | (with_reducible apply Del.there)))))⟩
        case measure => have := HK1.out.2; simp [intOf]; omega
    · have hk20 : k = 20 := by omega
      have hk1' : ¬ (k : Int) < 20 := by omega
      obtain ⟨nm, HN⟩ : ∃ nm, Hid (nm = nameL s2 (m + 20)) := ⟨_, rfl⟩
      obtain ⟨ps, HPS⟩ : ∃ ps, Hid (passF key nm = ps) := ⟨_, rfl⟩
      obtain ⟨us3, HU3⟩ : ∃ us3, Hid (us3 = uL s2 key m 19) := ⟨_, rfl⟩
      have HNM : Hid (nameF s1 s2 t l mk = nm) := by show _ = _; rw [HU.out.2, hk20, uL_nameF HRO.out hm9 (Nat.le_refl _), HN.out]
      have HD : Hid (dropU us 0 mk nm = ⟨us3, 0, 0⟩) := by show _ = _; rw [HU.out.1, HU.out.2, HN.out, HU3.out, hk20]; exact uL_drop HRO.out hm9
      have hh3 : hasB us3 0 mk nm ps = false := by rw [HU3.out, HN.out]; exact uL_hasNot (i := 19) hm9 (by omega) _ _
      have hfit3 : ∀ u ∈ us3, UserFits u := by rw [HU3.out]; exact uL_fits HRO.out
      have hl3 : us3.length = 19 := by rw [HU3.out, uL_len]
      have hl3b : ((us3.length : Int) == 19) = true := by rw [hl3]; rfl
      have hl3c : decide ((us3.length : Int) = 19) = true := by rw [hl3]; rfl
      have hlu : us.length = 20 := by rw [HU.out.1, uL_len]; exact hk20
      have hlub : ((us.length : Int) == 20) = true := by rw [hlu]; rfl
      have hluc : decide ((us.length : Int) = 20) = true := by rw [hlu]; rfl
      have hnm : nm.size ≤ maxLen := by rw [← HNM.out]; exact nameF_size _ _ _ _ _
      clear hl3 hlu hk20 HU3 hul
      have hul : us.length ≤ 1048576 := by have := HU.out.1; rw [this, uL_len]; omega
      go_wp2_with fail
      refine (implUserName_any s1 s2 t l mk _ hz1 hz2 (ht.on (Hp.b (by repeat (first | (with_reducible exact H) | (with_reducible apply Hp.alloc) | (with_reducible apply Hp.set) | (with_reducible apply Hp.drew) | (with_reducible apply Hp.drewN) | (with_reducible apply Hp.bytesW) | (with_reducible exact Upd.here) | (with_reducible exact Upd.hereR) | (with_reducible apply Upd.there) | (with_reducible apply Sz.alloc) | (with_reducible apply Sz.set) | (with_reducible apply Sz.drew) | (with_reducible apply Sz.drewN) | (with_reducible apply Sz.bytesW) | (with_reducible assumption) | (with_reducible exact Sz.base _)))))).mono ?_
      rintro e w7 ⟨rfl, q7⟩
      rw [HNM.out]
      replace H := Hp.step (by repeat (first | (with_reducible exact H) | (with_reducible apply Hp.alloc) | (with_reducible apply Hp.set) | (with_reducible apply Hp.drew) | (with_reducible apply Hp.drewN) | (with_reducible apply Hp.bytesW) | (with_reducible exact Upd.here) | (with_reducible exact Upd.hereR) | (with_reducible apply Upd.there) | (with_reducible apply Sz.alloc) | (with_reducible apply Sz.set) | (with_reducible apply Sz.drew) | (with_reducible apply Sz.drewN) | (with_reducible apply Sz.bytesW) | (with_reducible assumption) | (with_reducible exact Sz.base _))) q7; (try simp only [List.set_cons_zero, List.set_cons_succ, List.cons_append, List.nil_append] at H); clear q7 F; have F := H.facts; simp only [Facts, NeF, box, row, reg, cellsF, rUser, ne_eq, true_and, and_true, Nat.reduceAdd, Nat.zero_add] at F
      go_wp2_with fail
      refine (implDropUser_any A1 us.length d us 0 mk nm us3 0 0 HD.out _ (Hp.rdM (by repeat (first | (with_reducible exact H) | (with_reducible apply Hp.alloc) | (with_reducible apply Hp.set) | (with_reducible apply Hp.drew) | (with_reducible apply Hp.drewN) | (with_reducible apply Hp.bytesW) | (with_reducible exact Upd.here) | (with_reducible exact Upd.hereR) | (with_reducible apply Upd.there) | (with_reducible apply Sz.alloc) | (with_reducible apply Sz.set) | (with_reducible apply Sz.drew) | (with_reducible apply Sz.drewN) | (with_reducible apply Sz.bytesW) | (with_reducible assumption) | (with_reducible exact Sz.base _))) (by repeat (first | (with_reducible exact List.mem_cons_self) | (with_reducible apply List.mem_cons_of_mem)))) rfl hfit hul (by omega)).mono ?_
      rintro e w8 ⟨A3, d3, lo, hi, rfl, g1, g2, g3⟩
      have h8 := Hp.ofOwn g3 g1 g2
      clear g1 g2 g3
      replace H := Hp.call (by repeat (first | (with_reducible exact H) | (with_reducible apply Hp.alloc) | (with_reducible apply Hp.set) | (with_reducible apply Hp.drew) | (with_reducible apply Hp.drewN) | (with_reducible apply Hp.bytesW) | (with_reducible exact Upd.here) | (with_reducible exact Upd.hereR) | (with_reducible apply Upd.there) | (with_reducible apply Sz.alloc) | (with_reducible apply Sz.set) | (with_reducible apply Sz.drew) | (with_reducible apply Sz.drewN) | (with_reducible apply Sz.bytesW) | (with_reducible assumption) | (with_reducible exact Sz.base _))) h8; (try simp only [List.set_cons_zero, List.set_cons_succ, List.cons_append, List.nil_append] at H); clear h8 F; have F := H.facts; simp only [Facts, NeF, box, row, reg, cellsF, rUser, ne_eq, true_and, and_true, Nat.reduceAdd, Nat.zero_add] at F
      go_wp2_with fail
      replace H := H.alloc (t := 26) (cs := [.slice A3 us3.length d3, .int .i64 0, .int .i64 mk]) (Sz.base w8)
      clear F
      have hc1 : ∀ W, Hp w W [box w8.heap.size 26 [.slice A3 us3.length d3, .int .i64 0, .int .i64 mk], rUser A3 d3 us3, rUser A1 d us, box fb 26 [.slice A1 us.length d, .int .i64 0, .int .i64 mk], box rb 28 [.string s1, .string s2, .int .i64 t, .int .i64 l]] → Calls Tryd.prog 10 #[.agg #[.slice A3 us3.length d3, .int .i64 0, .int .i64 mk], .string nm, .string ps] W fun e w' => e = .returned (.bool false) ∧ Below W.heap.size W w' := fun W hW => by
        have h9 := implHasUser_any A3 us3.length d3 us3 0 mk nm ps W (Hp.rdM hW (by repeat (first | (with_reducible exact List.mem_cons_self) | (with_reducible apply List.mem_cons_of_mem)))) rfl hfit3
        rw [hh3] at h9; exact h9
      have HC1 := Lib.hid hc1; clear hc1
      clear hh3 hfit hfit3 HD
      (refine wp_region_quiet (C := fun W => Hp w W [box w8.heap.size 26 [.slice A3 us3.length d3, .int .i64 0, .int .i64 mk], rUser A3 d3 us3, rUser A1 d us, box fb 26 [.slice A1 us.length d, .int .i64 0, .int .i64 mk], box rb 28 [.string s1, .string s2, .int .i64 t, .int .i64 l]]) (by kernel_rfl) (by kernel_rfl) (by show Hp _ (World.drew _) _; exact (by repeat (first | (with_reducible exact H) | (with_reducible apply Hp.alloc) | (with_reducible apply Hp.set) | (with_reducible apply Hp.drew) | (with_reducible apply Hp.drewN) | (with_reducible apply Hp.bytesW) | (with_reducible exact Upd.here) | (with_reducible exact Upd.hereR) | (with_reducible apply Upd.there) | (with_reducible apply Sz.alloc) | (with_reducible apply Sz.set) | (with_reducible apply Sz.drew) | (with_reducible apply Sz.drewN) | (with_reducible apply Sz.bytesW) | (with_reducible assumption) | (with_reducible exact Sz.base _)))) ?_; (repeat (first | go_big_quiet_skip | (refine BigFrame.wpQuiet_want (by rfl) (fun K hK => ?_); unfold Oper.quiet; apply Exists.intro; refine ⟨fun W hW => ?_, hK _ ?_⟩; (focus (have G := hW.facts; simp only [Facts, NeF, box, row, reg, cellsF, rUser, ne_eq, true_and, and_true, Nat.reduceAdd, Nat.zero_add] at G; skip; go_simp; first | rfl | (go_at_call 10; refine (HC1.out _ hW).mono ?_; rintro e w' ⟨rfl, hb⟩; exact ⟨rfl, hW.step hb⟩) | (go_at_call 11; refine (implUserPass_any key nm _ hnm (ht.on hW.b)).mono ?_; rintro e w' ⟨rfl, hb⟩; rw [HPS.out]; exact ⟨rfl, hW.step hb⟩))); clear hK K; simp only [Act.put, List.setIfInBounds_toArray, List.set_cons_zero, List.set_cons_succ]))); refine wpQuiet_nil ?_; intro wq H; have F := H.facts; simp only [Facts, NeF, box, row, reg, cellsF, rUser, ne_eq, true_and, and_true, Nat.reduceAdd, Nat.zero_add] at F)
      all_goals
        go_wp2_with fail
        go_ret
        exact ⟨rfl, Hp.b (by repeat (first | (with_reducible exact H) | (with_reducible apply Hp.alloc) | (with_reducible apply Hp.set) | (with_reducible apply Hp.drew) | (with_reducible apply Hp.drewN) | (with_reducible apply Hp.bytesW) | (with_reducible exact Upd.here) | (with_reducible exact Upd.hereR) | (with_reducible apply Upd.there) | (with_reducible apply Sz.alloc) | (with_reducible apply Sz.set) | (with_reducible apply Sz.drew) | (with_reducible apply Sz.drewN) | (with_reducible apply Sz.bytesW) | (with_reducible assumption) | (with_reducible exact Sz.base _)))⟩
end Go.Proofs.YtaaloiloklnbiaaDoor
