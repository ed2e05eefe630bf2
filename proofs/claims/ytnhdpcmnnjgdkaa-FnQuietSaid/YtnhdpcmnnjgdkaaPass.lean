/- Passwords of users. No condition. -/
import Derived.Test.YtnhdpcmnnjgdkaaDig
import Derived.Test.YtnhdpcmnnjgdkaaWide
import Derived.Test.YtnhdpcmnnjgdkaaNumW
set_option linter.unusedVariables false
set_option linter.unusedSimpArgs false
namespace Go.Proofs.Ytnhdpcmnnjgdkaa
open Go.RowKit
set_option linter.unusedVariables false
set_option linter.unusedSimpArgs false
def passL (key : Int) (s : ByteArray) : List UInt8 := wideL key.toNat ++ s.data.toList
def passF (key : Int) (s : ByteArray) : ByteArray := if inR key 0 1099511627776 = true ∧ isNm s = true then ⟨(Go.Lib.decDigits (dig (passL key s)).toNat).toArray⟩ else ByteArray.empty
theorem nm_size {s : ByteArray} (h : isNm s = true) : s.size ≤ 12 := by
  unfold isNm at h
  simp [inR] at h
  omega
theorem dig_nat (bs : List UInt8) : ∃ d : Nat, dig bs = d ∧ d ≤ 4611686018427387904 ∧ (dig bs).toNat = d := by
  obtain ⟨h0, h1⟩ := dig_bd bs
  exact ⟨(dig bs).toNat, by omega, by omega, rfl⟩
set_option maxHeartbeats 2000000 in
set_option maxRecDepth 10000 in
theorem specUserPass_any (key : Int) (s : ByteArray) (w : World) (hs : s.size ≤ maxLen) :
    Calls Try.prog 10 #[.int .i64 key, .string s] w fun e w' => e = .returned (.string (passF key s)) ∧ Below w.heap.size w w' := by
  have hcv := fun w => Go.Lib.run_convert_string_bytes (P := Try.prog) w 9 22 5 s Try.underlying9 Try.underlying22 Try.underlying5
  have HS := Lib.hid hs; clear hs
  have H := Hp.nil w
  by_cases hk : inR key 0 1099511627776 = true
  case neg =>
    have hk' := Bool.eq_false_iff.2 hk
    have HR : Hid (passF key s = ByteArray.empty) := by show _ = _; rw [passF, if_neg (by rw [hk']; simp)]
    clear hk
    go_enter Try.func10, Try.ntmps10
    go_wp2_with (first | (go_at_call 25; refine (l04Key_any _ _).mono ?_; rintro e w' ⟨rfl, rfl⟩) | (go_at_call 26; refine (l01Name_any _ _ HS.out).mono ?_; rintro e w' ⟨rfl, rfl⟩))
    go_ret
    exact ⟨by rw [HR.out]; rfl, Hp.b (by repeat (first | (with_reducible exact H) | (with_reducible apply Hp.alloc) | (with_reducible apply Hp.set) | (with_reducible apply Hp.drew) | (with_reducible apply Hp.drewN) | (with_reducible apply Hp.bytesW) | (with_reducible exact Upd.here) | (with_reducible exact Upd.hereR) | (with_reducible apply Upd.there) | (with_reducible apply Sz.alloc) | (with_reducible apply Sz.set) | (with_reducible apply Sz.drew) | (with_reducible apply Sz.drewN) | (with_reducible apply Sz.bytesW) | (with_reducible assumption) | (with_reducible exact Sz.base _)))⟩
  by_cases hm : isNm s = true
  case neg =>
    have hm' := Bool.eq_false_iff.2 hm
    have HR : Hid (passF key s = ByteArray.empty) := by show _ = _; rw [passF, if_neg (by rw [hm']; simp)]
    clear hm
    go_enter Try.func10, Try.ntmps10
    go_wp2_with (first | (go_at_call 25; refine (l04Key_any _ _).mono ?_; rintro e w' ⟨rfl, rfl⟩) | (go_at_call 26; refine (l01Name_any _ _ HS.out).mono ?_; rintro e w' ⟨rfl, rfl⟩))
    go_ret
    exact ⟨by rw [HR.out]; rfl, Hp.b (by repeat (first | (with_reducible exact H) | (with_reducible apply Hp.alloc) | (with_reducible apply Hp.set) | (with_reducible apply Hp.drew) | (with_reducible apply Hp.drewN) | (with_reducible apply Hp.bytesW) | (with_reducible exact Upd.here) | (with_reducible exact Upd.hereR) | (with_reducible apply Upd.there) | (with_reducible apply Sz.alloc) | (with_reducible apply Sz.set) | (with_reducible apply Sz.drew) | (with_reducible apply Sz.drewN) | (with_reducible apply Sz.bytesW) | (with_reducible assumption) | (with_reducible exact Sz.base _)))⟩
  have hm12 := nm_size hm
  have HR : Hid (passF key s = ⟨(Go.Lib.decDigits (dig (wideL key.toNat ++ s.data.toList)).toNat).toArray⟩) := by show _ = _; rw [passF, if_pos ⟨hk, hm⟩]; rfl
  obtain ⟨hk0, hk1⟩ := inR_true.1 hk
  obtain ⟨kn, rfl⟩ := Int.eq_ofNat_of_zero_le hk0
  go_enter Try.func10, Try.ntmps10
  go_wp2_with (first | (go_at_call 25; refine (l04Key_any _ _).mono ?_; rintro e w' ⟨rfl, rfl⟩) | (go_at_call 26; refine (l01Name_any _ _ HS.out).mono ?_; rintro e w' ⟨rfl, rfl⟩))
  refine (specPutWide_hp kn _ (by omega)).mono ?_
  rintro e w1 ⟨A1, c1, rfl, h1⟩
  replace H := Hp.call (by repeat (first | (with_reducible exact H) | (with_reducible apply Hp.alloc) | (with_reducible apply Hp.set) | (with_reducible apply Hp.drew) | (with_reducible apply Hp.drewN) | (with_reducible apply Hp.bytesW) | (with_reducible exact Upd.here) | (with_reducible exact Upd.hereR) | (with_reducible apply Upd.there) | (with_reducible apply Sz.alloc) | (with_reducible apply Sz.set) | (with_reducible apply Sz.drew) | (with_reducible apply Sz.drewN) | (with_reducible apply Sz.bytesW) | (with_reducible assumption) | (with_reducible exact Sz.base _))) h1; (try simp only [List.set_cons_zero, List.set_cons_succ, List.cons_append, List.nil_append] at H)
  clear h1
  go_wp2_with fail
  have hsl : s.data.toList.length = s.size := by simp
  have RB := rd_bytes w1 s HS.out
  rw [← hsl]
  rw [← hsl] at RB
  have hsl2 : s.data.toList.length ≤ 12 := by omega
  clear hsl hm12
  have hrw : (kn : Int).toNat = kn := Int.toNat_natCast kn
  rw [hrw] at HR
  clear hrw
  generalize s.data.toList = bs at *
  refine (l01Join_hp _ _ (wideL kn) _ _ bs _ (Hp.rdM (by repeat (first | (with_reducible exact H) | (with_reducible apply Hp.alloc) | (with_reducible apply Hp.set) | (with_reducible apply Hp.drew) | (with_reducible apply Hp.drewN) | (with_reducible apply Hp.bytesW) | (with_reducible exact Upd.here) | (with_reducible exact Upd.hereR) | (with_reducible apply Upd.there) | (with_reducible apply Sz.alloc) | (with_reducible apply Sz.set) | (with_reducible apply Sz.drew) | (with_reducible apply Sz.drewN) | (with_reducible apply Sz.bytesW) | (with_reducible assumption) | (with_reducible exact Sz.base _))) (by repeat (first | (with_reducible exact List.mem_cons_self) | (with_reducible apply List.mem_cons_of_mem)))) RB (by rw [wideL_len]; omega) (by omega)).mono ?_
  rintro e w2 ⟨A2, c2, rfl, h2⟩
  replace H := Hp.call (by repeat (first | (with_reducible exact H) | (with_reducible apply Hp.alloc) | (with_reducible apply Hp.set) | (with_reducible apply Hp.drew) | (with_reducible apply Hp.drewN) | (with_reducible apply Hp.bytesW) | (with_reducible exact Upd.here) | (with_reducible exact Upd.hereR) | (with_reducible apply Upd.there) | (with_reducible apply Sz.alloc) | (with_reducible apply Sz.set) | (with_reducible apply Sz.drew) | (with_reducible apply Sz.drewN) | (with_reducible apply Sz.bytesW) | (with_reducible assumption) | (with_reducible exact Sz.base _))) h2; (try simp only [List.set_cons_zero, List.set_cons_succ, List.cons_append, List.nil_append] at H)
  clear h2 RB
  have RD := Hp.rd H 0 rfl
  rw [List.length_append] at RD
  go_wp2_with fail
  obtain ⟨d, hd, hd2, hd3⟩ := dig_nat (wideL kn ++ bs)
  refine (specDigest_n A2 _ c2 (wideL kn ++ bs) _ RD (List.length_append)).mono ?_
  rintro e w3 ⟨rfl, rfl⟩
  rw [hd3] at HR
  rw [hd]
  clear hd hd3
  go_wp2_with fail
  refine (l01Num_any d _ hd2).mono ?_
  rintro e w4 ⟨rfl, hb4⟩
  replace H := Hp.step (by repeat (first | (with_reducible exact H) | (with_reducible apply Hp.alloc) | (with_reducible apply Hp.set) | (with_reducible apply Hp.drew) | (with_reducible apply Hp.drewN) | (with_reducible apply Hp.bytesW) | (with_reducible exact Upd.here) | (with_reducible exact Upd.hereR) | (with_reducible apply Upd.there) | (with_reducible apply Sz.alloc) | (with_reducible apply Sz.set) | (with_reducible apply Sz.drew) | (with_reducible apply Sz.drewN) | (with_reducible apply Sz.bytesW) | (with_reducible assumption) | (with_reducible exact Sz.base _))) hb4; (try simp only [List.set_cons_zero, List.set_cons_succ, List.cons_append, List.nil_append] at H)
  clear hb4
  go_wp2_with fail
  go_ret
  exact ⟨by rw [HR.out]; rfl, Hp.b (by repeat (first | (with_reducible exact H) | (with_reducible apply Hp.alloc) | (with_reducible apply Hp.set) | (with_reducible apply Hp.drew) | (with_reducible apply Hp.drewN) | (with_reducible apply Hp.bytesW) | (with_reducible exact Upd.here) | (with_reducible exact Upd.hereR) | (with_reducible apply Upd.there) | (with_reducible apply Sz.alloc) | (with_reducible apply Sz.set) | (with_reducible apply Sz.drew) | (with_reducible apply Sz.drewN) | (with_reducible apply Sz.bytesW) | (with_reducible assumption) | (with_reducible exact Sz.base _)))⟩
end Go.Proofs.Ytnhdpcmnnjgdkaa
