/- Digests. No condition. -/
import Derived.Test.YtnhdpcmnnjgdkaaM2
set_option linter.unusedVariables false
set_option linter.unusedSimpArgs false
namespace Go.Proofs.Ytnhdpcmnnjgdkaa
open Go.RowKit
set_option linter.unusedVariables false
set_option linter.unusedSimpArgs false

def digStep (p : Int × Int) (b : UInt8) : Int × Int := ((131 * p.1 + b.toNat + 1) % 2147483647, (137 * p.2 + b.toNat + 3) % 2147483629)
def digP (bs : List UInt8) : Int × Int := bs.foldl digStep (7, 11)
def dig (bs : List UInt8) : Int := 2147483648 * (digP bs).1 + (digP bs).2
theorem digP_snoc (bs : List UInt8) (b : UInt8) : digP (bs ++ [b]) = digStep (digP bs) b := by rw [digP, List.foldl_append]; rfl
theorem digP_bd (bs : List UInt8) : (0 ≤ (digP bs).1 ∧ (digP bs).1 < 2147483647) ∧ 0 ≤ (digP bs).2 ∧ (digP bs).2 < 2147483629 := by
  suffices h : ∀ (l : List UInt8) (p : Int × Int), (0 ≤ p.1 ∧ p.1 < 2147483647) ∧ 0 ≤ p.2 ∧ p.2 < 2147483629 → (0 ≤ (l.foldl digStep p).1 ∧ (l.foldl digStep p).1 < 2147483647) ∧ 0 ≤ (l.foldl digStep p).2 ∧ (l.foldl digStep p).2 < 2147483629 from h bs (7, 11) (by simp)
  intro l
  induction l with
  | nil => intro p h; exact h
  | cons b l ih =>
    intro p h
    refine ih _ ?_
    show (0 ≤ (131 * p.1 + b.toNat + 1) % 2147483647 ∧ (131 * p.1 + b.toNat + 1) % 2147483647 < 2147483647) ∧ 0 ≤ (137 * p.2 + b.toNat + 3) % 2147483629 ∧ (137 * p.2 + b.toNat + 3) % 2147483629 < 2147483629
    omega
theorem dig_bd (bs : List UInt8) : 0 ≤ dig bs ∧ dig bs ≤ 4611686018427387904 := by
  have := digP_bd bs
  unfold dig
  omega
set_option maxHeartbeats 2000000 in
theorem specDigest_any (A : Option Addr) (c : Nat) (bs : List UInt8) (w : World) (hr : Rd w w.heap.size 1 A bs.length c (bs.flatMap encByte)) :
    Calls Try.prog 28 #[.slice A bs.length c] w fun e w' => e = .returned (.int .i64 (dig bs)) ∧ w = w' := by
  have hc := hr.2.1
  have hm := hr.2.2.1
  unfold maxLen at hm
  go_enter Try.func28, Try.ntmps28
  go_wp2_with fail
  go_loop [3, 4, 5] (fun u v i => ∃ (k : Nat) (x y : Int), k ≤ bs.length ∧ i = .int .i64 k ∧ u = .int .i64 x ∧ v = .int .i64 y ∧ 0 ≤ x ∧ x < 2147483647 ∧ 0 ≤ y ∧ y < 2147483629 ∧ Hid (digP (bs.take k) = (x, y))) (fun _ _ i => bs.length - (intOf i).toNat)
  case atStart => exact ⟨0, 7, 11, Nat.zero_le _, rfl, rfl, rfl, by omega, by omega, by omega, by omega, rfl⟩
  case round =>
    obtain ⟨k, x, y, hk, rfl, rfl, rfl, hx0, hx1, hy0, hy1, HD⟩ := hrel
    by_cases hlt : k < bs.length
    · obtain ⟨b, off, rfl, hb, hcell⟩ := hr.elem encByte_len rfl hlt
      have c0 := hcell 0 _ rfl
      simp only [Nat.add_zero, Nat.mul_one] at c0
      have HT : Hid (digP (bs.take (k + 1)) = ((131 * x + bs[k].toNat + 1) % 2147483647, (137 * y + bs[k].toNat + 3) % 2147483629)) := by
        show _ = _
        rw [take_snoc_l hlt, digP_snoc, HD.out]; rfl
      have ht := bs[k].toNat_lt
      clear hcell HD
      generalize bs[k].toNat = t at *
      go_wp2_with fail
      go_round
      case rel => exact ⟨k + 1, _, _, by omega, by go_num, rfl, rfl, by omega, by omega, by omega, by omega, HT⟩
      case measure => simp [intOf]; omega
    · have HE : Hid (dig bs = 2147483648 * x + y) := by
        have := HD.out
        rw [List.take_of_length_le (by omega)] at this
        show _ = _
        rw [dig, this]
      go_wp2_with fail
      go_ret
      exact ⟨by rw [HE.out]; rfl, rfl⟩
theorem specDigest_n (A : Option Addr) (n c : Nat) (bs : List UInt8) (w : World) (hr : Rd w w.heap.size 1 A n c (bs.flatMap encByte)) (hn : bs.length = n) :
    Calls Try.prog 28 #[.slice A n c] w fun e w' => e = .returned (.int .i64 (dig bs)) ∧ w = w' := by subst hn; exact specDigest_any A c bs w hr
end Go.Proofs.Ytnhdpcmnnjgdkaa
