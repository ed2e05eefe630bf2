/- Users made one after the other, in plain words. No condition. -/
import Derived.Test.YtaaloiloklnbiaaDoorMakeI
import Derived.Test.YtaaloiloklnbiaaDoorHas
import Derived.Test.YtaaloiloklnbiaaDoorDropP
import Derived.Test.YtaaloiloklnbiaaDoorRise
namespace Go.Proofs.YtaaloiloklnbiaaDoor
open Go.RowKit
set_option linter.unusedVariables false
theorem dch_lt {a b : Nat} (h : a % 10 < b % 10) : dch a < dch b := by
  rw [UInt8.lt_iff_toNat_lt]
  unfold dch
  rw [UInt8.toNat_ofNat', UInt8.toNat_ofNat']
  omega
theorem padL_lt : ∀ f a b, a / 10 ^ f = b / 10 ^ f → a < b → padL f a < padL f b
  | 0, a, b, h, hl => by simp at h; omega
  | f + 1, a, b, h, hl => by
    rw [padL_cons, padL_cons, List.cons_lt_cons_iff]
    have h1 : a / 10 ^ (f + 1) = a / 10 ^ f / 10 := by rw [Nat.pow_succ, Nat.div_div_eq_div_mul]
    have h2 : b / 10 ^ (f + 1) = b / 10 ^ f / 10 := by rw [Nat.pow_succ, Nat.div_div_eq_div_mul]
    have h3 : a / 10 ^ f ≤ b / 10 ^ f := Nat.div_le_div_right (by omega)
    rw [h1, h2] at h
    by_cases he : a / 10 ^ f = b / 10 ^ f
    · exact .inr ⟨by rw [he], padL_lt f a b he hl⟩
    · exact .inl (dch_lt (by omega))
theorem app_lt {l l1 l2 : List UInt8} (h : l1 < l2) : l ++ l1 < l ++ l2 := by
  induction l with
  | nil => exact h
  | cons a l ih => exact List.cons_lt_cons_iff.2 (.inr ⟨rfl, ih⟩)
theorem nameL_lt (pf : ByteArray) {a b : Nat} (h : a < b) (hb : b < 1000000) : ltS (nameL pf a) (nameL pf b) = true := by
  rw [ltS_lt, ByteArray.toList_eq, ByteArray.toList_eq]
  have e : ∀ n, (nameL pf n).data.toList = pf.data.toList ++ padL 6 n := fun n => by simp [nameL]
  rw [e, e]
  refine app_lt (padL_lt 6 a b ?_ h)
  rw [Nat.div_eq_of_lt (show a < 10 ^ 6 by omega), Nat.div_eq_of_lt (show b < 10 ^ 6 by omega)]
/-- The users that the first i calls have made, from the number m on. -/
def uAt (pf : ByteArray) (key : Int) (m : Nat) : User := ⟨nameL pf m, passF key (nameL pf m)⟩
def uL (pf : ByteArray) (key : Int) (m : Nat) : Nat → List User
  | 0 => []
  | i + 1 => uL pf key m i ++ [uAt pf key (m + i + 1)]
theorem uL_len (pf : ByteArray) (key : Int) (m : Nat) : ∀ i, (uL pf key m i).length = i
  | 0 => rfl
  | i + 1 => by rw [uL, List.length_append, uL_len pf key m i]; rfl
theorem uL_mem {pf : ByteArray} {key : Int} {m : Nat} {u : User} : ∀ {i}, u ∈ uL pf key m i → ∃ j, j < i ∧ u = uAt pf key (m + j + 1)
  | 0, h => by cases h
  | i + 1, h => by
    rcases List.mem_append.1 h with h | h
    · obtain ⟨j, h1, h2⟩ := uL_mem h; exact ⟨j, by omega, h2⟩
    · exact ⟨i, by omega, List.mem_singleton.1 h⟩
theorem uL_get (pf : ByteArray) (key : Int) (m : Nat) : ∀ i j, j < i → (uL pf key m i)[j]? = some (uAt pf key (m + j + 1))
  | 0, j, h => by omega
  | i + 1, j, h => by
    rw [uL]
    by_cases hj : j < i
    · rw [List.getElem?_append_left (by rw [uL_len]; exact hj)]; exact uL_get pf key m i j hj
    · have : j = i := by omega
      subst this
      rw [List.getElem?_append_right (by rw [uL_len]; omega), uL_len]; simp
section
variable {nm pf : ByteArray} {ttl lim key : Int} {m i : Nat}
theorem uL_farOk (hr : roleOk nm pf ttl lim = true) (hm : m + 20 < 1000000) (hi : i ≤ 20) (made : Int) (hd : 0 ≤ made ∧ made ≤ 1000000000) : farOk (uL pf key m i) 0 made = true := by
  have h1 : farRise (uL pf key m i) (uL pf key m i).length = true := by
    rw [farRise, List.all_eq_true]
    intro j hj
    have hj : j < i := by have := List.mem_range.1 hj; rwa [uL_len] at this
    rw [farStep, uL_get pf key m i j hj]
    simp only [Option.map_some, Option.getD_some, uAt, nameL_ok hr, Bool.true_and]
    by_cases h0 : j = 0
    · simp [h0]
    · rw [uL_get pf key m i (j - 1) (by omega)]
      simp only [Option.map_some, Option.getD_some, uAt]
      rw [gtS_not, nameL_lt pf (show m + (j - 1) + 1 < m + j + 1 by omega) (by omega)]
      simp
  have h2 : decide ((uL pf key m i).length ≤ 120) = true := by rw [uL_len]; simp; omega
  rw [farOk, h1, h2, inR_true.2 (by omega), inR_true.2 hd]
  rfl
theorem uL_below (hm : m + 20 < 1000000) (hi : i < 20) : ∀ u ∈ uL pf key m i, ltS u.name (nameL pf (m + i + 1)) = true := by
  intro u hu
  obtain ⟨j, hj, rfl⟩ := uL_mem hu
  exact nameL_lt pf (by omega) (by omega)
theorem uL_make (hr : roleOk nm pf ttl lim = true) (hk : inR key 0 1099511627776 = true) (hm : m + 20 < 1000000) (hi : i < 20) :
    makeU (uL pf key m i) 0 ((m + i : Nat) : Int) nm pf ttl lim key = ⟨uL pf key m (i + 1), 0, ((m + i + 1 : Nat) : Int), uAt pf key (m + i + 1), 0⟩ := by
  have hN : nameF nm pf ttl lim (((m + i : Nat) : Int) + 1) = nameL pf (m + i + 1) := by
    rw [nameF, if_pos ⟨hr, inR_true.2 (by omega)⟩]
    congr 1
  have hb := uL_below (pf := pf) (key := key) hm hi
  have hat : bsAt (cfU (nameL pf (m + i + 1))) (uL pf key m i) = (uL pf key m i).length := by
    rw [bsAt, List.countP_eq_length]
    intro u hu
    exact decide_eq_true (cmpS_lt.2 (hb u hu))
  have hh : bsHit (cfU (nameL pf (m + i + 1))) (uL pf key m i) = false := by
    rw [bsHit, hat, List.getElem?_eq_none (Nat.le_refl _)]; rfl
  have hmk : makeOk ((m + i : Nat) : Int) nm pf ttl lim key = true := by
    rw [makeOk, hr, hk]
    have : (((m + i : Nat) : Int) == 1000000000) = false := by simp; omega
    rw [this]; rfl
  rw [makeU, if_pos (uL_farOk hr hm (by omega) _ (by omega)), if_pos hmk, if_neg (by omega), hN, hh, if_neg (by decide), if_neg (by rw [uL_len]; omega), hat, List.take_length, List.drop_length]
  simp [uL, uAt]
theorem uL_hasNot (hm : m + 20 < 1000000) (hi : i < 20) (p : ByteArray) (made : Int) : hasB (uL pf key m i) 0 made (nameL pf (m + i + 1)) p = false := by
  have : hasU (uL pf key m i) (nameL pf (m + i + 1)) p = false := by
    rw [hasU, List.any_eq_false]
    intro u hu
    have h1 := ltS_ne (uL_below (pf := pf) (key := key) hm hi u hu)
    cases h2 : eqB u.name (nameL pf (m + i + 1)) with
    | false => simp
    | true => exact absurd (eqB_iff.1 h2) h1
  rw [hasB, this, Bool.and_false]
theorem uL_has (hr : roleOk nm pf ttl lim = true) (hm : m + 20 < 1000000) (hi : i < 20) : hasB (uL pf key m (i + 1)) 0 ((m + i + 1 : Nat) : Int) (nameL pf (m + i + 1)) (passF key (nameL pf (m + i + 1))) = true := by
  rw [hasB, uL_farOk hr hm (by omega) _ (by omega), Bool.true_and, hasU, List.any_eq_true]
  exact ⟨uAt pf key (m + i + 1), List.mem_append_right _ (List.mem_singleton.2 rfl), by rw [uAt]; simp only; rw [eqB_iff.2 rfl, eqB_iff.2 rfl]; rfl⟩
theorem uL_drop (hr : roleOk nm pf ttl lim = true) (hm : m + 20 < 1000000) : dropU (uL pf key m 20) 0 ((m + 20 : Nat) : Int) (nameL pf (m + 20)) = ⟨uL pf key m 19, 0, 0⟩ := by
  have hk : keepU (nameL pf (m + 20)) (uL pf key m 20) = uL pf key m 19 := by
    have h0 : ∀ u ∈ uL pf key m 19, (!(eqB u.name (nameL pf (m + 20)))) = true := by
      intro u hu
      have h1 := ltS_ne (uL_below (pf := pf) (key := key) (i := 19) hm (by omega) u hu)
      cases h2 : eqB u.name (nameL pf (m + 20)) with
      | false => rfl
      | true => exact absurd (eqB_iff.1 h2) h1
    have h3 : eqB (uAt pf key (m + 20)).name (nameL pf (m + 20)) = true := eqB_iff.2 rfl
    have h4 : uL pf key m 20 = uL pf key m 19 ++ [uAt pf key (m + 20)] := by rw [show (20 : Nat) = 19 + 1 by omega, uL]
    rw [keepU, h4, List.filter_append, List.filter_eq_self.2 h0, List.filter_cons, h3, List.filter_nil]
    simp
  rw [dropU, if_pos (uL_farOk hr hm (Nat.le_refl _) _ (by omega)), if_neg (by omega), hk]
theorem uL_nameF (hr : roleOk nm pf ttl lim = true) (hm : m + 20 < 1000000) (hi : i ≤ 20) : nameF nm pf ttl lim ((m + i : Nat) : Int) = nameL pf (m + i) := by
  rw [nameF, if_pos ⟨hr, inR_true.2 (by omega)⟩]
  congr 1
end
end Go.Proofs.YtaaloiloklnbiaaDoor
