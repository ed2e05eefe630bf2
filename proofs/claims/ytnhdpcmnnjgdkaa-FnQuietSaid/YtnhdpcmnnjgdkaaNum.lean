/- Numerals: digits, in plain words. No condition. -/
import Derived.Lib.ItoaNum
import Derived.Lib.Repeat
set_option linter.unusedVariables false
set_option linter.unusedSimpArgs false
namespace Go.Proofs.Ytnhdpcmnnjgdkaa
open Go.Lib (decDigits)

def dch (n : Nat) : UInt8 := UInt8.ofNat (48 + n % 10)
/-- The last f digits of n. -/
def padL : Nat → Nat → List UInt8
  | 0, _ => []
  | f + 1, n => padL f (n / 10) ++ [dch n]
theorem padL_len : ∀ f n, (padL f n).length = f
  | 0, _ => rfl
  | f + 1, n => by rw [padL, List.length_append, padL_len f]; rfl
theorem padL_cons : ∀ f n, padL (f + 1) n = dch (n / 10 ^ f) :: padL f n
  | 0, n => by simp [padL]
  | f + 1, n => by
    rw [padL, padL_cons f (n / 10), padL, Nat.div_div_eq_div_mul, Nat.pow_succ, Nat.mul_comm 10 (10 ^ f)]
    rfl
theorem dec_small {n : Nat} (h : n < 10) : decDigits n = [dch n] := by rw [decDigits, dif_pos h, dch, Nat.mod_eq_of_lt h]
theorem dec_big {n : Nat} (h : ¬ n < 10) : decDigits n = decDigits (n / 10) ++ [dch n] := by rw [decDigits, dif_neg h, dch]
theorem padL_dec : ∀ f n, n < 10 ^ (f + 1) → List.replicate (f + 1 - (decDigits n).length) 48 ++ decDigits n = padL (f + 1) n
  | 0, n, h => by
    have h : n < 10 := by simpa using h
    rw [dec_small h]; rfl
  | f + 1, n, h => by
    by_cases hn : n < 10
    · have h0 := padL_dec f 0 (Nat.pow_pos (by omega))
      rw [dec_small (by omega)] at h0
      rw [padL, Nat.div_eq_of_lt hn, ← h0, dec_small hn]
      have e : dch 0 = 48 := rfl
      simp only [List.length_cons, List.length_nil, Nat.zero_add, Nat.add_sub_cancel, e]
      rw [List.replicate_succ', List.append_assoc]
    · have h1 : n / 10 < 10 ^ (f + 1) := by
        rw [Nat.div_lt_iff_lt_mul (by omega), ← Nat.pow_succ]; exact h
      rw [padL, ← padL_dec f (n / 10) h1, dec_big hn, List.length_append, List.append_assoc]
      simp
theorem padL_mod : ∀ f n, padL f (n % 10 ^ f) = padL f n
  | 0, _ => rfl
  | f + 1, n => by
    have e1 : n % 10 ^ (f + 1) / 10 = n / 10 % 10 ^ f := by rw [Nat.pow_succ, Nat.mul_comm, Nat.mod_mul_right_div_self]
    have e2 : n % 10 ^ (f + 1) % 10 = n % 10 := by rw [Nat.pow_succ, Nat.mod_mul_left_mod]
    rw [padL, padL, e1, padL_mod f, dch, e2, dch]
theorem dec_len_le : ∀ f n, n < 10 ^ (f + 1) → (decDigits n).length ≤ f + 1
  | 0, n, h => by
    have h : n < 10 := by simpa using h
    rw [dec_small h]; simp
  | f + 1, n, h => by
    by_cases hn : n < 10
    · rw [dec_small hn]; simp
    · have h1 : n / 10 < 10 ^ (f + 1) := by
        rw [Nat.div_lt_iff_lt_mul (by omega), ← Nat.pow_succ]; exact h
      have := dec_len_le f (n / 10) h1
      rw [dec_big hn, List.length_append]
      simp; omega
/-- Six digits with leading zeros, as the program makes them. -/
theorem six_eq (n : Nat) : Go.Lib.repeatL [48] (6 - (decDigits (n % 1000000)).length) ++ decDigits (n % 1000000) = padL 6 n := by
  have hr : ∀ c, Go.Lib.repeatL [48] c = List.replicate c 48 := by
    intro c
    induction c with
    | zero => rfl
    | succ c ih => rw [Go.Lib.repeatL, ih, List.replicate_succ]; rfl
  rw [hr]
  have h := padL_dec 5 (n % 10 ^ 6) (Nat.mod_lt _ (by decide))
  rw [padL_mod] at h
  exact h
/-- Digits, none for 0. -/
def ddL (m : Nat) : List UInt8 := if m = 0 then [] else decDigits m
theorem ddL_zero : ddL 0 = [] := rfl
theorem ddL_pos {m : Nat} (h : 0 < m) : ddL m = decDigits m := by rw [ddL, if_neg (by omega)]
theorem ddL_step {m : Nat} (h : 0 < m) : ddL m = ddL (m / 10) ++ [dch m] := by
  rw [ddL_pos h]
  by_cases hn : m < 10
  · rw [dec_small hn, Nat.div_eq_of_lt hn, ddL_zero]; rfl
  · rw [dec_big hn, ddL_pos (by omega)]
/- little-endian bytes -/
def wideB (x i : Nat) : UInt8 := UInt8.ofNat (x / 256 ^ i % 256)
def wideL (x : Nat) : List UInt8 := (List.range 8).map (wideB x)
theorem wideL_len (x : Nat) : (wideL x).length = 8 := by simp [wideL]
theorem wideL_take {x k : Nat} (h : k < 8) : (wideL x).take (k + 1) = (wideL x).take k ++ [wideB x k] := by
  rw [List.take_succ_eq_append_getElem (by rw [wideL_len]; exact h)]
  simp [wideL]
end Go.Proofs.Ytnhdpcmnnjgdkaa
