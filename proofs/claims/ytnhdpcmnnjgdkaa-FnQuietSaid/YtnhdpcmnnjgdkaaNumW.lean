/- Numerals and six digits: contracts. No condition. -/
import Derived.Test.YtnhdpcmnnjgdkaaM2
import Derived.Test.YtnhdpcmnnjgdkaaNum
import Derived.Test.YtnhdpcmnnjgdkaaShelf
import Derived.Lib.ItoaMem
import Derived.Lib.AppendIntMem
set_option linter.unusedVariables false
set_option linter.unusedSimpArgs false
namespace Go.Proofs.Ytnhdpcmnnjgdkaa
open Go.RowKit
set_option linter.unusedVariables false
set_option linter.unusedSimpArgs false

theorem bytesOne (w : World) (x : Int) (d : UInt8) (hx : x = d.toNat) : (convert 22 9 (.slice (some ⟨w.heap.size, 0, none⟩) 1 1)).run Try.prog (w.alloc (.cells #[.int .u8 x] 5)) = .ok (.string ⟨[d].toArray⟩) (w.alloc (.cells #[.int .u8 x] 5)) := by
  subst hx
  exact run_convert_bytes_back (P := Try.prog) (w.alloc (.cells #[.int .u8 d.toNat] 5)) 22 9 5 ⟨w.heap.size, 0, none⟩ 1 [d] Try.underlying22 Try.underlying5 Try.underlying9 (fun j hj => by
    obtain rfl : j = 0 := by simpa using hj
    simp [go_sem, Addr.add])
theorem dch_nat (n : Nat) : ((dch n).toNat : Int) = 48 + (n : Int) % 10 := by
  unfold dch
  rw [UInt8.toNat_ofNat']
  have : (48 + n % 10) % 256 = 48 + n % 10 := by omega
  omega
set_option maxHeartbeats 2000000 in
set_option maxRecDepth 100000 in
theorem l01Num_any (x : Nat) (w : World) (hx : x ≤ 4611686018427387904) :
    Calls Try.prog 27 #[.int .i64 x] w fun e w' => e = .returned (.string ⟨(Go.Lib.decDigits x).toArray⟩) ∧ Below w.heap.size w w' := by
  by_cases h0 : x = 0
  · subst h0
    go_enter Try.func27, Try.ntmps27
    go_wp2_with fail
    go_ret
    exact ⟨by rw [dec_small (by omega)]; rfl, Below.refl _ _⟩
  have h1 : ((x : Int) == 0) = false := by simp; omega
  have h2 : ¬ (x : Int) < 0 := by omega
  have H := Hp.nil w
  go_enter Try.func27, Try.ntmps27
  go_wp2_with fail
  go_loopw [0, 3] (fun k o wr => ∃ (m f : Nat) (t : List UInt8), k = .int .i64 m ∧ o = .string ⟨t.toArray⟩ ∧ m ≤ 4611686018427387904 ∧ Hid (m < 10 ^ f) ∧ t.length ≤ 20 ∧ Hid (f + t.length = 20) ∧ Hid (ddL m ++ t = Go.Lib.decDigits x) ∧ Hid (Hp w wr [])) (fun k _ _ => (intOf k).toNat)
  case atStart => exact ⟨x, 20, [], rfl, rfl, by omega, by show _ < _; omega, by simp, rfl, by show _ = _; rw [ddL_pos (by omega)]; simp, H⟩
  case round =>
    clear H
    obtain ⟨m, f, t, rfl, rfl, hm, HF, ht, HL, HD, HP⟩ := hrel
    have H := HP.out
    by_cases hlt : 0 < m
    · have hcv := bytesOne wr (48 + (m : Int) % 10) (dch m) (dch_nat m).symm
      obtain ⟨g, hg, hgl⟩ : ∃ g, f = g + 1 ∧ m / 10 < 10 ^ g := by
        have hf := HF.out
        cases f with
        | zero => simp at hf; omega
        | succ g => exact ⟨g, rfl, by rw [Nat.pow_succ] at hf; omega⟩
      have HG : Hid (g + (dch m :: t).length = 20) := by show _ = _; have := HL.out; simp; omega
      have HG2 : Hid (m / 10 < 10 ^ g) := hgl
      have HG3 : Hid (ddL (m / 10) ++ (dch m :: t) = Go.Lib.decDigits x) := by show _ = _; rw [← HD.out, ddL_step hlt]; simp
      have HG4 : Hid ((dch m :: t).length ≤ 20) := by show _ ≤ _; have := HL.out; simp; omega
      have hm0 : ((m : Int) == 0) = false := by simp; omega
      have hm1 : ((m : Int) != 0) = true := by simp; omega
      have hm2 : (0 : Int) < m := by omega
      clear hg hgl
      go_wp2
      go_roundw
      case rel => exact ⟨m / 10, g, dch m :: t, by go_num, congrArg Value.string (ByteArray.ext (by simp)), by omega, HG2, HG4.out, HG, HG3, Lib.hid (Hp.give (by repeat (first | (with_reducible exact H) | (with_reducible apply Hp.alloc) | (with_reducible apply Hp.set) | (with_reducible apply Hp.drew) | (with_reducible apply Hp.drewN) | (with_reducible apply Hp.bytesW) | (with_reducible exact Upd.here) | (with_reducible exact Upd.hereR) | (with_reducible apply Upd.there) | (with_reducible apply Sz.alloc) | (with_reducible apply Sz.set) | (with_reducible apply Sz.drew) | (with_reducible apply Sz.drewN) | (with_reducible apply Sz.bytesW) | (with_reducible assumption) | (with_reducible exact Sz.base _))) [] (by decide) (by rfl))⟩
      case measure => simp [intOf]; omega
    · obtain rfl : m = 0 := by omega
      have HM : Hid (t = Go.Lib.decDigits x) := HD.out
      go_wp2
      go_ret
      exact ⟨by rw [← HM.out]; rfl, Hp.b (by repeat (first | (with_reducible exact H) | (with_reducible apply Hp.alloc) | (with_reducible apply Hp.set) | (with_reducible apply Hp.drew) | (with_reducible apply Hp.drewN) | (with_reducible apply Hp.bytesW) | (with_reducible exact Upd.here) | (with_reducible exact Upd.hereR) | (with_reducible apply Upd.there) | (with_reducible apply Sz.alloc) | (with_reducible apply Sz.set) | (with_reducible apply Sz.drew) | (with_reducible apply Sz.drewN) | (with_reducible apply Sz.bytesW) | (with_reducible assumption) | (with_reducible exact Sz.base _)))⟩
end Go.Proofs.Ytnhdpcmnnjgdkaa
