/- Names of users. No condition. -/
import Derived.Test.YtnhdpcmnnjgdkaaM2
import Derived.Test.YtnhdpcmnnjgdkaaNumW
import Derived.Deep.RegionWith
set_option linter.unusedVariables false
set_option linter.unusedSimpArgs false
namespace Go.Proofs.Ytnhdpcmnnjgdkaa
open Go.RowKit
set_option linter.unusedVariables false
set_option linter.unusedSimpArgs false
def nameL (pf : ByteArray) (n : Nat) : ByteArray := pf ++ ⟨(padL 6 n).toArray⟩
def nameF (nm pf : ByteArray) (ttl lim n : Int) : ByteArray := if roleOk nm pf ttl lim = true ∧ inR n 0 1000000000 = true then nameL pf n.toNat else ByteArray.empty
theorem role_pf {nm pf : ByteArray} {ttl lim : Int} (h : roleOk nm pf ttl lim = true) : pf.size ≤ 6 := by
  simp [roleOk] at h
  omega
set_option maxHeartbeats 2000000 in
set_option maxRecDepth 10000 in
theorem specUserName_any (nm pf : ByteArray) (ttl lim n : Int) (w : World) (hs1 : nm.size ≤ maxLen) (hs2 : pf.size ≤ maxLen) :
    Calls Try.prog 51 #[.agg #[.string nm, .string pf, .int .i64 ttl, .int .i64 lim], .int .i64 n] w fun e w' => e = .returned (.string (nameF nm pf ttl lim n)) ∧ Below w.heap.size w w' := by
  obtain ⟨i0, hi0, hz0, hz1, hz2⟩ := info_parts Try.infoByte
  have H := Hp.nil w
  go_enter Try.func51, Try.ntmps51
  go_wp2_with fail
  refine (specRoleOk_any nm pf ttl lim _ hs1 hs2).mono ?_
  rintro e w1 ⟨rfl, hb1⟩
  replace H := Hp.step (by repeat (first | (with_reducible exact H) | (with_reducible apply Hp.alloc) | (with_reducible apply Hp.set) | (with_reducible apply Hp.drew) | (with_reducible apply Hp.drewN) | (with_reducible apply Hp.bytesW) | (with_reducible exact Upd.here) | (with_reducible exact Upd.hereR) | (with_reducible apply Upd.there) | (with_reducible apply Sz.alloc) | (with_reducible apply Sz.set) | (with_reducible apply Sz.drew) | (with_reducible apply Sz.drewN) | (with_reducible apply Sz.bytesW) | (with_reducible assumption) | (with_reducible exact Sz.base _))) hb1; (try simp only [List.set_cons_zero, List.set_cons_succ, List.cons_append, List.nil_append] at H)
  have F := H.facts; simp only [Facts, NeF, box, row, reg, cellsF, rByte, ne_eq, true_and, and_true, Nat.reduceAdd, Nat.zero_add] at F
  by_cases hk : roleOk nm pf ttl lim = true
  case neg =>
    have hk' := Bool.eq_false_iff.2 hk
    have HR : Hid (nameF nm pf ttl lim n = ByteArray.empty) := by show _ = _; rw [nameF, if_neg (by rw [hk']; simp)]
    clear hk
    go_wp2_with fail
    go_ret
    exact ⟨by rw [HR.out]; rfl, Hp.b (by repeat (first | (with_reducible exact H) | (with_reducible apply Hp.alloc) | (with_reducible apply Hp.set) | (with_reducible apply Hp.drew) | (with_reducible apply Hp.drewN) | (with_reducible apply Hp.bytesW) | (with_reducible exact Upd.here) | (with_reducible exact Upd.hereR) | (with_reducible apply Upd.there) | (with_reducible apply Sz.alloc) | (with_reducible apply Sz.set) | (with_reducible apply Sz.drew) | (with_reducible apply Sz.drewN) | (with_reducible apply Sz.bytesW) | (with_reducible assumption) | (with_reducible exact Sz.base _)))⟩
  by_cases hm : inR n 0 1000000000 = true
  case neg =>
    have hm' := Bool.eq_false_iff.2 hm
    have HR : Hid (nameF nm pf ttl lim n = ByteArray.empty) := by show _ = _; rw [nameF, if_neg (by rw [hm']; simp)]
    clear hm
    go_wp2_with (go_at_call 38; refine (l01In_any _ _ _ _).mono ?_; rintro e w' ⟨rfl, rfl⟩)
    go_ret
    exact ⟨by rw [HR.out]; rfl, Hp.b (by repeat (first | (with_reducible exact H) | (with_reducible apply Hp.alloc) | (with_reducible apply Hp.set) | (with_reducible apply Hp.drew) | (with_reducible apply Hp.drewN) | (with_reducible apply Hp.bytesW) | (with_reducible exact Upd.here) | (with_reducible exact Upd.hereR) | (with_reducible apply Upd.there) | (with_reducible apply Sz.alloc) | (with_reducible apply Sz.set) | (with_reducible apply Sz.drew) | (with_reducible apply Sz.drewN) | (with_reducible apply Sz.bytesW) | (with_reducible assumption) | (with_reducible exact Sz.base _)))⟩
  have HR : Hid (nameF nm pf ttl lim n = nameL pf n.toNat) := by show _ = _; rw [nameF, if_pos ⟨hk, hm⟩]
  obtain ⟨hc0, hc1⟩ := inR_true.1 hm
  obtain ⟨n, rfl⟩ := Int.eq_ofNat_of_zero_le hc0
  rw [Int.toNat_natCast] at HR
  have hp6 := role_pf hk
  go_wp2_with (go_at_call 38; refine (l01In_any _ _ _ _).mono ?_; rintro e w' ⟨rfl, rfl⟩)
  clear F hm hk
  go_loopw [1, 5, 6] (fun x v i wr => ∃ k m : Nat, k ≤ 6 ∧ i = .int .i64 k ∧ x = .int .i64 m ∧ m ≤ 1000000000 ∧ Hid (n / 10 ^ k = m) ∧ ∃ g c', v = .slice (some ⟨g, 0, none⟩) k c' ∧ Hid (Hp w wr [row 5 1 (.slice (some ⟨g, 0, none⟩) k c') k ((padL k n).flatMap encByte), box w.heap.size 81 [.string nm, .string pf, .int .i64 ttl, .int .i64 lim]])) (fun _ _ i _ => 6 - (intOf i).toNat)
  case atStart => exact ⟨0, n, by omega, rfl, rfl, by omega, by show _ = _; simp, w1.heap.size, 0, rfl, Lib.hid (Hp.give (Hp.boxRow (by repeat (first | (with_reducible exact H) | (with_reducible apply Hp.alloc) | (with_reducible apply Hp.set) | (with_reducible apply Hp.drew) | (with_reducible apply Hp.drewN) | (with_reducible apply Hp.bytesW) | (with_reducible exact Upd.here) | (with_reducible exact Upd.hereR) | (with_reducible apply Upd.there) | (with_reducible apply Sz.alloc) | (with_reducible apply Sz.set) | (with_reducible apply Sz.drew) | (with_reducible apply Sz.drewN) | (with_reducible apply Sz.bytesW) | (with_reducible assumption) | (with_reducible exact Sz.base _))) 0 1 0 0 (by rfl) (by rfl) (Nat.le_refl _) (Nat.zero_le _)) [0, 1] (by decide) (by rfl))⟩
  case round =>
    clear H
    obtain ⟨k, m, hk, rfl, rfl, hm9, HM, g0, c', rfl, HP⟩ := hrel
    have H := HP.out
    have F := H.facts; simp only [Facts, NeF, box, row, reg, cellsF, rByte, ne_eq, true_and, and_true, Nat.reduceAdd, Nat.zero_add] at F
    by_cases hlt : k < 6
    · have HC : Hid (encByte (dch m) ++ (padL k n).flatMap encByte = (padL (k + 1) n).flatMap encByte) := by
        show _ = _
        rw [padL_cons, HM.out, List.flatMap_cons]
      have HM2 : Hid (n / 10 ^ (k + 1) = m / 10) := by
        show _ = _
        rw [Nat.pow_succ, ← Nat.div_div_eq_div_mul, HM.out]
      have hd := (dch_nat m).symm
      have hlp : ((padL k n).flatMap encByte).length = k * 1 := by rw [flat_len encByte 1 encByte_len, padL_len]
      have HLP := Lib.hid hlp
      clear hlp
      go_wp2_with (at_builtin; refine wpList_append_lies0 (by rfl) _ _ 22 (by rfl) w.heap.size 5 i0 _ 1 _ Try.underlying22 hi0 hz0 hz1 hz2 (by rfl) (by decide) (.slice (some ⟨wr.heap.size, 0, none⟩) 1 1) 1 _ (by rfl) (Hp.rowAt (Hp.boxRow (by repeat (first | (with_reducible exact H) | (with_reducible apply Hp.alloc) | (with_reducible apply Hp.set) | (with_reducible apply Hp.drew) | (with_reducible apply Hp.drewN) | (with_reducible apply Hp.bytesW) | (with_reducible exact Upd.here) | (with_reducible exact Upd.hereR) | (with_reducible apply Upd.there) | (with_reducible apply Sz.alloc) | (with_reducible apply Sz.set) | (with_reducible apply Sz.drew) | (with_reducible apply Sz.drewN) | (with_reducible apply Sz.bytesW) | (with_reducible assumption) | (with_reducible exact Sz.base _))) 0 1 1 1 (by rfl) (by rfl) (Nat.le_refl _) (by decide)) 0 (by rfl)) ⟨g0, 0, none⟩ k c' ((padL k n).flatMap encByte) (by rfl) HLP.out (Rd.newsF (Hp.rdM (by repeat (first | (with_reducible exact H) | (with_reducible apply Hp.alloc) | (with_reducible apply Hp.set) | (with_reducible apply Hp.drew) | (with_reducible apply Hp.drewN) | (with_reducible apply Hp.bytesW) | (with_reducible exact Upd.here) | (with_reducible exact Upd.hereR) | (with_reducible apply Upd.there) | (with_reducible apply Sz.alloc) | (with_reducible apply Sz.set) | (with_reducible apply Sz.drew) | (with_reducible apply Sz.drewN) | (with_reducible apply Sz.bytesW) | (with_reducible assumption) | (with_reducible exact Sz.base _))) (by repeat (first | (with_reducible exact List.mem_cons_self) | (with_reducible apply List.mem_cons_of_mem))))) (manyByte _) (by omega) (by unfold maxLen; omega) (by omega) (Hp.b (by repeat (first | (with_reducible exact H) | (with_reducible apply Hp.alloc) | (with_reducible apply Hp.set) | (with_reducible apply Hp.drew) | (with_reducible apply Hp.drewN) | (with_reducible apply Hp.bytesW) | (with_reducible exact Upd.here) | (with_reducible exact Upd.hereR) | (with_reducible apply Upd.there) | (with_reducible apply Sz.alloc) | (with_reducible apply Sz.set) | (with_reducible apply Sz.drew) | (with_reducible apply Sz.drewN) | (with_reducible apply Sz.bytesW) | (with_reducible assumption) | (with_reducible exact Sz.base _)))).size _ rfl ?_; intro g cap wa hown hgrow hat hlt1; have H5 := Hp.app (Hp.boxRow (by repeat (first | (with_reducible exact H) | (with_reducible apply Hp.alloc) | (with_reducible apply Hp.set) | (with_reducible apply Hp.drew) | (with_reducible apply Hp.drewN) | (with_reducible apply Hp.bytesW) | (with_reducible exact Upd.here) | (with_reducible exact Upd.hereR) | (with_reducible apply Upd.there) | (with_reducible apply Sz.alloc) | (with_reducible apply Sz.set) | (with_reducible apply Sz.drew) | (with_reducible apply Sz.drewN) | (with_reducible apply Sz.bytesW) | (with_reducible assumption) | (with_reducible exact Sz.base _))) 0 1 1 1 (by rfl) (by rfl) (Nat.le_refl _) (by decide)) 0 (by rfl) hown hgrow hat rfl hlt1; (try simp only [List.set_cons_zero, List.set_cons_succ, List.cons_append, List.nil_append] at H5))
      have e2 : row 5 1 (.slice (some ⟨g, 0, none⟩) (1 + k) cap) (1 + k) (List.take (1 * 1) [.int .u8 ((dch m).toNat : Int)] ++ (padL k n).flatMap encByte) = row 5 1 (.slice (some ⟨g, 0, none⟩) (k + 1) cap) (k + 1) ((padL (k + 1) n).flatMap encByte) := by
        rw [Nat.add_comm 1 k, ← HC.out]; rfl
      rw [e2] at H5
      go_roundw
      case rel => exact ⟨k + 1, m / 10, by omega, by go_num, by go_num, by omega, HM2, g, cap, by rw [Nat.add_comm], Lib.hid (by refine Hp.sel (by repeat (first | (with_reducible exact H5) | (with_reducible apply Hp.alloc) | (with_reducible apply Hp.set) | (with_reducible apply Hp.drew) | (with_reducible apply Hp.drewN) | (with_reducible apply Hp.bytesW) | (with_reducible exact Upd.here) | (with_reducible exact Upd.hereR) | (with_reducible apply Upd.there) | (with_reducible apply Sz.alloc) | (with_reducible apply Sz.set) | (with_reducible apply Sz.drew) | (with_reducible apply Sz.drewN) | (with_reducible apply Sz.bytesW) | (with_reducible assumption) | (with_reducible exact Sz.base _))) ?_; (try simp only [List.set_cons_zero, List.set_cons_succ]); exact (by repeat (first | (with_reducible exact Sel.nil) | (with_reducible apply Sel.cons) | (with_reducible exact Del.here) | (with_reducible apply Del.there))))⟩
      case measure => simp [intOf]; omega
    · obtain rfl : k = 6 := by omega
      have hcv := run_convert_bytes_back (P := Try.prog) wr 22 9 5 ⟨g0, 0, none⟩ c' (padL 6 n) Try.underlying22 Try.underlying5 Try.underlying9 (fun i hi => (H.rowAt 0 rfl).cells (g := g0) rfl i (.int .u8 ((padL 6 n)[i]'hi).toNat) (by
          have := flat_get encByte 1 encByte_len (padL 6 n) i 0 (by omega)
          rw [Nat.mul_one, Nat.add_zero, List.getElem?_eq_getElem hi] at this
          rw [this]; rfl))
      rw [padL_len 6 n] at hcv
      have hl : (padL 6 n).length ≤ 6 := by rw [padL_len]; omega
      have HN : Hid (nameL pf n = pf ++ ⟨(padL 6 n).toArray⟩) := rfl
      have HH := Lib.hid H
      clear H
      generalize padL 6 n = ds at *
      go_wp2_with fail
      go_ret
      exact ⟨by rw [HR.out, HN.out]; rfl, Hp.b (HH.out)⟩
end Go.Proofs.Ytnhdpcmnnjgdkaa
