/- Codes of a count. No condition. -/
import Derived.Test.YtonbebacioocnaaDoorDig
import Derived.Test.YtonbebacioocnaaDoorWide
import Derived.Test.YtonbebacioocnaaDoorNumW
import Derived.Test.YtonbebacioocnaaDoorConcat
namespace Go.Proofs.YtonbebacioocnaaDoor
open Go.RowKit
set_option linter.unusedVariables false
set_option linter.unusedSimpArgs false
theorem dig_nat' (bs : List UInt8) : ∃ d : Nat, dig bs = d ∧ d ≤ 4611686018427387904 ∧ (dig bs).toNat = d := by
  obtain ⟨h0, h1⟩ := dig_bd bs
  exact ⟨(dig bs).toNat, by omega, by omega, rfl⟩
/-- The code's six digits. -/
def codeL (key count : Nat) : List UInt8 := padL 6 (dig (wideL key ++ wideL count)).toNat
def codeF (key count : Int) : ByteArray := if inR key 0 1099511627776 = true ∧ inR count 0 1000000000 = true then ⟨(codeL key.toNat count.toNat).toArray⟩ else ByteArray.empty
set_option maxHeartbeats 2000000 in
set_option maxRecDepth 10000 in
theorem codeAt_any (kn cn : Nat) (w : World) (hk : kn ≤ 1099511627776) (hc : cn ≤ 1000000001) (ht : tabOk w) :
    Calls Tryd.prog 70 #[.int .i64 kn, .int .i64 cn] w fun e w' => e = .returned (.string ⟨(codeL kn cn).toArray⟩) ∧ Below w.heap.size w w' := by
  have H := Hp.nil w
  go_enter Tryd.func70, Tryd.ntmps70
  go_wp2_with fail
  refine (putWide_hp kn _ (by omega)).mono ?_
  rintro e w1 ⟨A1, c1, rfl, h1⟩
  replace H := Hp.call (by repeat (first | (with_reducible exact H) | (with_reducible apply Hp.alloc) | (with_reducible apply Hp.set) | (with_reducible apply Hp.drew) | (with_reducible apply Hp.drewN) | (with_reducible apply Hp.bytesW) | (with_reducible exact Upd.here) | (with_reducible exact Upd.hereR) | (with_reducible apply Upd.there) | (with_reducible apply Sz.alloc) | (with_reducible apply Sz.set) | (with_reducible apply Sz.drew) | (with_reducible apply Sz.drewN) | (with_reducible apply Sz.bytesW) | (with_reducible assumption) | (with_reducible exact Sz.base _))) h1; (try simp only [List.set_cons_zero, List.set_cons_succ, List.cons_append, List.nil_append] at H)
  clear h1
  go_wp2_with fail
  refine (putWide_hp cn _ (by omega)).mono ?_
  rintro e w2 ⟨A2, c2, rfl, h2⟩
  replace H := Hp.call (by repeat (first | (with_reducible exact H) | (with_reducible apply Hp.alloc) | (with_reducible apply Hp.set) | (with_reducible apply Hp.drew) | (with_reducible apply Hp.drewN) | (with_reducible apply Hp.bytesW) | (with_reducible exact Upd.here) | (with_reducible exact Upd.hereR) | (with_reducible apply Upd.there) | (with_reducible apply Sz.alloc) | (with_reducible apply Sz.set) | (with_reducible apply Sz.drew) | (with_reducible apply Sz.drewN) | (with_reducible apply Sz.bytesW) | (with_reducible assumption) | (with_reducible exact Sz.base _))) h2; (try simp only [List.set_cons_zero, List.set_cons_succ, List.cons_append, List.nil_append] at H)
  clear h2
  have l1 := wideL_len kn
  have l2 := wideL_len cn
  have HL1 := Lib.hid l1
  have HL2 := Lib.hid l2
  clear l1 l2
  have F := H.facts; simp only [Facts, NeF, box, row, reg, cellsF, rByte, ne_eq, true_and, and_true, Nat.reduceAdd, Nat.zero_add] at F
  go_wp2_with fail
  refine (concat2_hp w2.heap.size A1 c1 (wideL kn) A2 c2 (wideL cn) _ (by simp [go_sem]) (by simp [go_sem]) (by simp) (Hp.rdM (by repeat (first | (with_reducible exact H) | (with_reducible apply Hp.alloc) | (with_reducible apply Hp.set) | (with_reducible apply Hp.drew) | (with_reducible apply Hp.drewN) | (with_reducible apply Hp.bytesW) | (with_reducible exact Upd.here) | (with_reducible exact Upd.hereR) | (with_reducible apply Upd.there) | (with_reducible apply Sz.alloc) | (with_reducible apply Sz.set) | (with_reducible apply Sz.drew) | (with_reducible apply Sz.drewN) | (with_reducible apply Sz.bytesW) | (with_reducible assumption) | (with_reducible exact Sz.base _))) (by repeat (first | (with_reducible exact List.mem_cons_self) | (with_reducible apply List.mem_cons_of_mem)))) (Hp.rdM (by repeat (first | (with_reducible exact H) | (with_reducible apply Hp.alloc) | (with_reducible apply Hp.set) | (with_reducible apply Hp.drew) | (with_reducible apply Hp.drewN) | (with_reducible apply Hp.bytesW) | (with_reducible exact Upd.here) | (with_reducible exact Upd.hereR) | (with_reducible apply Upd.there) | (with_reducible apply Sz.alloc) | (with_reducible apply Sz.set) | (with_reducible apply Sz.drew) | (with_reducible apply Sz.drewN) | (with_reducible apply Sz.bytesW) | (with_reducible assumption) | (with_reducible exact Sz.base _))) (by repeat (first | (with_reducible exact List.mem_cons_self) | (with_reducible apply List.mem_cons_of_mem)))) (by rw [HL1.out]; omega) (by rw [HL2.out]; omega) (by rw [HL1.out]; omega) (by rw [HL2.out]; omega)).mono ?_
  rintro e w3 ⟨A3, c3, rfl, h3⟩
  replace H := Hp.call (by repeat (first | (with_reducible exact H) | (with_reducible apply Hp.alloc) | (with_reducible apply Hp.set) | (with_reducible apply Hp.drew) | (with_reducible apply Hp.drewN) | (with_reducible apply Hp.bytesW) | (with_reducible exact Upd.here) | (with_reducible exact Upd.hereR) | (with_reducible apply Upd.there) | (with_reducible apply Sz.alloc) | (with_reducible apply Sz.set) | (with_reducible apply Sz.drew) | (with_reducible apply Sz.drewN) | (with_reducible apply Sz.bytesW) | (with_reducible assumption) | (with_reducible exact Sz.base _))) h3; (try simp only [List.set_cons_zero, List.set_cons_succ, List.cons_append, List.nil_append] at H)
  clear h3
  have RD := Hp.rd H 0 rfl
  rw [List.length_append] at RD
  go_wp2_with fail
  obtain ⟨d, hd, hd2, hd3⟩ := dig_nat' (wideL kn ++ wideL cn)
  refine (digest_n A3 _ c3 (wideL kn ++ wideL cn) _ RD (List.length_append)).mono ?_
  rintro e w4 ⟨rfl, rfl⟩
  have HD : Hid (codeL kn cn = padL 6 d) := by show _ = _; rw [codeL, hd3]
  rw [hd]
  clear hd hd3 RD F
  go_wp2_with fail
  refine (sixDigits_any d _ hd2 (ht.on (Hp.b (by repeat (first | (with_reducible exact H) | (with_reducible apply Hp.alloc) | (with_reducible apply Hp.set) | (with_reducible apply Hp.drew) | (with_reducible apply Hp.drewN) | (with_reducible apply Hp.bytesW) | (with_reducible exact Upd.here) | (with_reducible exact Upd.hereR) | (with_reducible apply Upd.there) | (with_reducible apply Sz.alloc) | (with_reducible apply Sz.set) | (with_reducible apply Sz.drew) | (with_reducible apply Sz.drewN) | (with_reducible apply Sz.bytesW) | (with_reducible assumption) | (with_reducible exact Sz.base _)))))).mono ?_
  rintro e w5 ⟨rfl, hb5⟩
  replace H := Hp.step (by repeat (first | (with_reducible exact H) | (with_reducible apply Hp.alloc) | (with_reducible apply Hp.set) | (with_reducible apply Hp.drew) | (with_reducible apply Hp.drewN) | (with_reducible apply Hp.bytesW) | (with_reducible exact Upd.here) | (with_reducible exact Upd.hereR) | (with_reducible apply Upd.there) | (with_reducible apply Sz.alloc) | (with_reducible apply Sz.set) | (with_reducible apply Sz.drew) | (with_reducible apply Sz.drewN) | (with_reducible apply Sz.bytesW) | (with_reducible assumption) | (with_reducible exact Sz.base _))) hb5; (try simp only [List.set_cons_zero, List.set_cons_succ, List.cons_append, List.nil_append] at H)
  go_wp2_with fail
  go_ret
  exact ⟨by rw [HD.out]; rfl, Hp.b (by repeat (first | (with_reducible exact H) | (with_reducible apply Hp.alloc) | (with_reducible apply Hp.set) | (with_reducible apply Hp.drew) | (with_reducible apply Hp.drewN) | (with_reducible apply Hp.bytesW) | (with_reducible exact Upd.here) | (with_reducible exact Upd.hereR) | (with_reducible apply Upd.there) | (with_reducible apply Sz.alloc) | (with_reducible apply Sz.set) | (with_reducible apply Sz.drew) | (with_reducible apply Sz.drewN) | (with_reducible apply Sz.bytesW) | (with_reducible assumption) | (with_reducible exact Sz.base _)))⟩
/-- The cells of a row of six, from place i on the last digits. -/
def sixC (d k : Nat) : List Value := (List.replicate (6 - k) 48 ++ padL k d).flatMap encByte
theorem sixC_set {d k : Nat} (h : k < 6) : (sixC d k).set (5 - k) (.int .u8 (dch (d / 10 ^ k)).toNat) = sixC d (k + 1) := by
  unfold sixC
  rw [padL_cons, show 6 - k = (5 - k) + 1 by omega, show 6 - (k + 1) = 5 - k by omega, List.replicate_succ', List.append_assoc]
  simp only [List.singleton_append, List.flatMap_append, List.flatMap_cons]
  have hl : ((List.replicate (5 - k) (48 : UInt8)).flatMap encByte).length = 5 - k := by rw [flat_len encByte 1 encByte_len, List.length_replicate, Nat.mul_one]
  rw [List.set_append_right _ _ (by rw [hl]; omega), hl, Nat.sub_self]
  rfl
set_option maxHeartbeats 4000000 in
set_option maxRecDepth 10000 in
theorem specCodeAt_any (key count : Int) (w : World) :
    Calls Tryd.prog 33 #[.int .i64 key, .int .i64 count] w fun e w' => e = .returned (.string (codeF key count)) ∧ Below w.heap.size w w' := by
  have H := Hp.nil w
  by_cases hk : inR key 0 1099511627776 = true
  case neg =>
    have hk' := Bool.eq_false_iff.2 hk
    have HR : Hid (codeF key count = ByteArray.empty) := by show _ = _; rw [codeF, if_neg (by rw [hk']; simp)]
    clear hk
    go_enter Tryd.func33, Tryd.ntmps33
    go_wp2_with (first | (go_at_call 67; refine (l04Key_any _ _).mono ?_; rintro e w' ⟨rfl, rfl⟩) | (go_at_call 64; refine (l01In_any _ _ _ _).mono ?_; rintro e w' ⟨rfl, rfl⟩))
    go_ret
    exact ⟨by rw [HR.out]; rfl, Hp.b (by repeat (first | (with_reducible exact H) | (with_reducible apply Hp.alloc) | (with_reducible apply Hp.set) | (with_reducible apply Hp.drew) | (with_reducible apply Hp.drewN) | (with_reducible apply Hp.bytesW) | (with_reducible exact Upd.here) | (with_reducible exact Upd.hereR) | (with_reducible apply Upd.there) | (with_reducible apply Sz.alloc) | (with_reducible apply Sz.set) | (with_reducible apply Sz.drew) | (with_reducible apply Sz.drewN) | (with_reducible apply Sz.bytesW) | (with_reducible assumption) | (with_reducible exact Sz.base _)))⟩
  by_cases hm : inR count 0 1000000000 = true
  case neg =>
    have hm' := Bool.eq_false_iff.2 hm
    have HR : Hid (codeF key count = ByteArray.empty) := by show _ = _; rw [codeF, if_neg (by rw [hm']; simp)]
    clear hm
    go_enter Tryd.func33, Tryd.ntmps33
    go_wp2_with (first | (go_at_call 67; refine (l04Key_any _ _).mono ?_; rintro e w' ⟨rfl, rfl⟩) | (go_at_call 64; refine (l01In_any _ _ _ _).mono ?_; rintro e w' ⟨rfl, rfl⟩))
    go_ret
    exact ⟨by rw [HR.out]; rfl, Hp.b (by repeat (first | (with_reducible exact H) | (with_reducible apply Hp.alloc) | (with_reducible apply Hp.set) | (with_reducible apply Hp.drew) | (with_reducible apply Hp.drewN) | (with_reducible apply Hp.bytesW) | (with_reducible exact Upd.here) | (with_reducible exact Upd.hereR) | (with_reducible apply Upd.there) | (with_reducible apply Sz.alloc) | (with_reducible apply Sz.set) | (with_reducible apply Sz.drew) | (with_reducible apply Sz.drewN) | (with_reducible apply Sz.bytesW) | (with_reducible assumption) | (with_reducible exact Sz.base _)))⟩
  have HR : Hid (codeF key count = ⟨(codeL key.toNat count.toNat).toArray⟩) := by show _ = _; rw [codeF, if_pos ⟨hk, hm⟩]
  obtain ⟨hk0, hk1⟩ := inR_true.1 hk
  obtain ⟨hc0, hc1⟩ := inR_true.1 hm
  obtain ⟨kn, rfl⟩ := Int.eq_ofNat_of_zero_le hk0
  obtain ⟨cn, rfl⟩ := Int.eq_ofNat_of_zero_le hc0
  rw [Int.toNat_natCast, Int.toNat_natCast] at HR
  go_enter Tryd.func33, Tryd.ntmps33
  go_wp2_with (first | (go_at_call 67; refine (l04Key_any _ _).mono ?_; rintro e w' ⟨rfl, rfl⟩) | (go_at_call 64; refine (l01In_any _ _ _ _).mono ?_; rintro e w' ⟨rfl, rfl⟩))
  refine (specPutWide_hp kn _ (by omega)).mono ?_
  rintro e w1 ⟨A1, c1, rfl, h1⟩
  replace H := Hp.call (by repeat (first | (with_reducible exact H) | (with_reducible apply Hp.alloc) | (with_reducible apply Hp.set) | (with_reducible apply Hp.drew) | (with_reducible apply Hp.drewN) | (with_reducible apply Hp.bytesW) | (with_reducible exact Upd.here) | (with_reducible exact Upd.hereR) | (with_reducible apply Upd.there) | (with_reducible apply Sz.alloc) | (with_reducible apply Sz.set) | (with_reducible apply Sz.drew) | (with_reducible apply Sz.drewN) | (with_reducible apply Sz.bytesW) | (with_reducible assumption) | (with_reducible exact Sz.base _))) h1; (try simp only [List.set_cons_zero, List.set_cons_succ, List.cons_append, List.nil_append] at H)
  clear h1
  go_wp2_with fail
  refine (specPutWide_hp cn _ (by omega)).mono ?_
  rintro e w2 ⟨A2, c2, rfl, h2⟩
  replace H := Hp.call (by repeat (first | (with_reducible exact H) | (with_reducible apply Hp.alloc) | (with_reducible apply Hp.set) | (with_reducible apply Hp.drew) | (with_reducible apply Hp.drewN) | (with_reducible apply Hp.bytesW) | (with_reducible exact Upd.here) | (with_reducible exact Upd.hereR) | (with_reducible apply Upd.there) | (with_reducible apply Sz.alloc) | (with_reducible apply Sz.set) | (with_reducible apply Sz.drew) | (with_reducible apply Sz.drewN) | (with_reducible apply Sz.bytesW) | (with_reducible assumption) | (with_reducible exact Sz.base _))) h2; (try simp only [List.set_cons_zero, List.set_cons_succ, List.cons_append, List.nil_append] at H)
  clear h2
  have l1 := wideL_len kn
  have l2 := wideL_len cn
  have HL1 := Lib.hid l1
  have HL2 := Lib.hid l2
  clear l1 l2
  go_wp2_with fail
  refine (l01Join_hp A1 c1 (wideL kn) A2 c2 (wideL cn) _ (Hp.rdM (by repeat (first | (with_reducible exact H) | (with_reducible apply Hp.alloc) | (with_reducible apply Hp.set) | (with_reducible apply Hp.drew) | (with_reducible apply Hp.drewN) | (with_reducible apply Hp.bytesW) | (with_reducible exact Upd.here) | (with_reducible exact Upd.hereR) | (with_reducible apply Upd.there) | (with_reducible apply Sz.alloc) | (with_reducible apply Sz.set) | (with_reducible apply Sz.drew) | (with_reducible apply Sz.drewN) | (with_reducible apply Sz.bytesW) | (with_reducible assumption) | (with_reducible exact Sz.base _))) (by repeat (first | (with_reducible exact List.mem_cons_self) | (with_reducible apply List.mem_cons_of_mem)))) (Hp.rdM (by repeat (first | (with_reducible exact H) | (with_reducible apply Hp.alloc) | (with_reducible apply Hp.set) | (with_reducible apply Hp.drew) | (with_reducible apply Hp.drewN) | (with_reducible apply Hp.bytesW) | (with_reducible exact Upd.here) | (with_reducible exact Upd.hereR) | (with_reducible apply Upd.there) | (with_reducible apply Sz.alloc) | (with_reducible apply Sz.set) | (with_reducible apply Sz.drew) | (with_reducible apply Sz.drewN) | (with_reducible apply Sz.bytesW) | (with_reducible assumption) | (with_reducible exact Sz.base _))) (by repeat (first | (with_reducible exact List.mem_cons_self) | (with_reducible apply List.mem_cons_of_mem)))) (by rw [HL1.out]; omega) (by rw [HL2.out]; omega)).mono ?_
  rintro e w3 ⟨A3, c3, rfl, h3⟩
  replace H := Hp.call (by repeat (first | (with_reducible exact H) | (with_reducible apply Hp.alloc) | (with_reducible apply Hp.set) | (with_reducible apply Hp.drew) | (with_reducible apply Hp.drewN) | (with_reducible apply Hp.bytesW) | (with_reducible exact Upd.here) | (with_reducible exact Upd.hereR) | (with_reducible apply Upd.there) | (with_reducible apply Sz.alloc) | (with_reducible apply Sz.set) | (with_reducible apply Sz.drew) | (with_reducible apply Sz.drewN) | (with_reducible apply Sz.bytesW) | (with_reducible assumption) | (with_reducible exact Sz.base _))) h3; (try simp only [List.set_cons_zero, List.set_cons_succ, List.cons_append, List.nil_append] at H)
  clear h3
  have RD := Hp.rd H 0 rfl
  rw [List.length_append] at RD
  go_wp2_with fail
  obtain ⟨d, hd, hd2, hd3⟩ := dig_nat' (wideL kn ++ wideL cn)
  refine (specDigest_n A3 _ c3 (wideL kn ++ wideL cn) _ RD (List.length_append)).mono ?_
  rintro e w4 ⟨rfl, rfl⟩
  have HD : Hid (codeL kn cn = padL 6 (d % 1000000)) := by show _ = _; rw [codeL, hd3]; exact (padL_mod 6 d).symm
  rw [hd]
  clear hd hd3 RD
  go_wp2_with fail
  have hdm : d % 1000000 ≤ 999999 := by omega
  have e1 : (d : Int) % 1000000 = ((d % 1000000 : Nat) : Int) := by omega
  try rw [e1]
  clear e1
  generalize d % 1000000 = d0 at *
  go_loopw [5, 7] (fun n i wr => ∃ (j k m : Nat), ((j ≤ 5 ∧ k ≤ 5 - j ∧ 5 - j ≤ k ∧ i = .int .i64 j) ∨ (j = 0 ∧ k = 6 ∧ i = .int .i64 (-1))) ∧ n = .int .i64 m ∧ m ≤ 999999 ∧ Hid (d0 / 10 ^ k = m) ∧ Hid (Hp w wr [row 5 1 (.slice (some ⟨w3.heap.size, 0, none⟩) 6 6) 6 (sixC d0 k)])) (fun _ i _ => (intOf i + 1).toNat)
  case atStart => exact ⟨5, 0, d0, .inl ⟨by omega, by omega, by omega, rfl⟩, rfl, by omega, by show _ = _; simp, Lib.hid (Hp.give (Hp.boxRow (by repeat (first | (with_reducible exact H) | (with_reducible apply Hp.alloc) | (with_reducible apply Hp.set) | (with_reducible apply Hp.drew) | (with_reducible apply Hp.drewN) | (with_reducible apply Hp.bytesW) | (with_reducible exact Upd.here) | (with_reducible exact Upd.hereR) | (with_reducible apply Upd.there) | (with_reducible apply Sz.alloc) | (with_reducible apply Sz.set) | (with_reducible apply Sz.drew) | (with_reducible apply Sz.drewN) | (with_reducible apply Sz.bytesW) | (with_reducible assumption) | (with_reducible exact Sz.base _))) 0 1 6 6 (by rfl) (by rfl) (Nat.le_refl _) (by decide)) [0] (by decide) (by rfl))⟩
  case round =>
    clear H
    obtain ⟨j, k, m, hjk, rfl, hm9, HM, HP⟩ := hrel
    have H := HP.out
    rcases hjk with ⟨hj5, hk1, hk2, rfl⟩ | ⟨rfl, rfl, rfl⟩
    · obtain ⟨v0, -, d0'⟩ := own_cell (H.rowAt 0 rfl) (j := j) (by omega)
      have f0 := (H.rowAt 0 rfl).frozenAt j
      have HC : Hid ((sixC d0 k).set j (.int .u8 (48 + (m : Int) % 10)) = sixC d0 (k + 1)) := by
        have h := sixC_set (d := d0) (k := k) (by omega)
        rw [HM.out, dch_nat, show 5 - k = j by omega] at h
        exact h
      have HM2 : Hid (d0 / 10 ^ (k + 1) = m / 10) := by
        show _ = _
        rw [Nat.pow_succ, ← Nat.div_div_eq_div_mul, HM.out]
      cases j with
      | zero =>
        go_wp2_with fail
        go_roundw
        case rel => exact ⟨0, k + 1, m / 10, .inr ⟨rfl, by omega, rfl⟩, by go_num, by omega, HM2, by rw [← HC.out]; exact Lib.hid (by repeat (first | (with_reducible exact H) | (with_reducible apply Hp.alloc) | (with_reducible apply Hp.set) | (with_reducible apply Hp.drew) | (with_reducible apply Hp.drewN) | (with_reducible apply Hp.bytesW) | (with_reducible exact Upd.here) | (with_reducible exact Upd.hereR) | (with_reducible apply Upd.there) | (with_reducible apply Sz.alloc) | (with_reducible apply Sz.set) | (with_reducible apply Sz.drew) | (with_reducible apply Sz.drewN) | (with_reducible apply Sz.bytesW) | (with_reducible assumption) | (with_reducible exact Sz.base _)))⟩
        case measure => simp [intOf]
      | succ j =>
        go_wp2_with fail
        go_roundw
        case rel => exact ⟨j, k + 1, m / 10, .inl ⟨by omega, by omega, by omega, by go_num⟩, by go_num, by omega, HM2, by rw [← HC.out]; exact Lib.hid (by repeat (first | (with_reducible exact H) | (with_reducible apply Hp.alloc) | (with_reducible apply Hp.set) | (with_reducible apply Hp.drew) | (with_reducible apply Hp.drewN) | (with_reducible apply Hp.bytesW) | (with_reducible exact Upd.here) | (with_reducible exact Upd.hereR) | (with_reducible apply Upd.there) | (with_reducible apply Sz.alloc) | (with_reducible apply Sz.set) | (with_reducible apply Sz.drew) | (with_reducible apply Sz.drewN) | (with_reducible apply Sz.bytesW) | (with_reducible assumption) | (with_reducible exact Sz.base _)))⟩
        case measure => simp [intOf]; omega
    · have he : sixC d0 6 = (padL 6 d0).flatMap encByte := rfl
      rw [he] at H
      have hcv := run_convert_bytes_back (P := Tryd.prog) wr 44 9 5 ⟨w3.heap.size, 0, none⟩ 6 (padL 6 d0) Tryd.underlying44 Tryd.underlying5 Tryd.underlying9 (fun i hi => by
        have h6 := padL_len 6 d0
        have hc := (H.rowAt 0 rfl).cells (g := w3.heap.size) rfl i (.int .u8 ((padL 6 d0)[i]'hi).toNat) (by
          have := flat_get encByte 1 encByte_len (padL 6 d0) i 0 (by omega)
          rw [Nat.mul_one, Nat.add_zero, List.getElem?_eq_getElem hi] at this
          rw [this]; rfl)
        exact hc)
      rw [padL_len 6 d0] at hcv
      clear he
      have HH := Lib.hid H
      clear H
      generalize padL 6 d0 = ds at *
      go_wp2_with fail
      go_ret
      exact ⟨by rw [HR.out, HD.out]; rfl, Hp.b (HH.out)⟩
end Go.Proofs.YtonbebacioocnaaDoor
