/- Leases: which are valid, and what the drops leave, in plain words. No condition. -/
import Derived.Test.YtlmmeeeoljlgcaaDoorM3
import Derived.Test.YtlmmeeeoljlgcaaDoorM4
set_option linter.unusedVariables false
set_option linter.unusedSimpArgs false
namespace Go.Proofs.YtlmmeeeoljlgcaaDoor
open Go.RowKit
set_option linter.unusedVariables false
abbrev valLease (l : Lease) : Value := .agg #[.int .i64 l.id, .int .i64 l.token, .string l.path, .int .i64 l.made, .int .i64 l.ends, .int .i64 l.limit]
def leaseOk (l : Lease) : Bool := inR l.id 1 1000000000 && (inR l.token 0 1000000000 && (pathF l.path && (inR l.made 0 1000000000 && (inR l.limit (l.made + 1) 1000000000 && inR l.ends (l.made + 1) l.limit))))
def leaseStep (ls : List Lease) (i : Nat) : Bool := match ls[i]? with
  | some l => leaseOk l && (decide (i = 0) || decide (((ls[i - 1]?.map (·.id)).getD 0) < l.id))
  | none => false
def leaseRise (ls : List Lease) (n : Nat) : Bool := (List.range n).all (leaseStep ls)
def bookOk (ls : List Lease) : Bool := decide (ls.length ≤ 150) && leaseRise ls ls.length
theorem leaseRise_snoc {us : List Lease} {k : Nat} (h : leaseRise us k = true) (hs : leaseStep us k = true) : leaseRise us (k + 1) = true := by
  simp [leaseRise, List.range_succ, List.all_append] at h ⊢; exact ⟨h, hs⟩
theorem leaseRise_no {us : List Lease} {k n : Nat} (hk : k < n) (hs : leaseStep us k = false) : leaseRise us n = false := by
  rw [leaseRise, List.all_eq_false]; exact ⟨k, by simpa using hk, by simp [hs]⟩
theorem bookOk_no {us : List Lease} (h : leaseRise us us.length = false) : bookOk us = false := by simp [bookOk, h]
theorem bookOk_iff {ls : List Lease} : bookOk ls = true ↔ ls.length ≤ 150 ∧ (∀ l ∈ ls, leaseOk l = true) ∧ (∀ i, (h : i + 1 < ls.length) → ls[i].id < ls[i + 1].id) := by
  rw [bookOk, Bool.and_eq_true, decide_eq_true_eq, leaseRise, List.all_eq_true]
  constructor
  · rintro ⟨h1, h2⟩
    have h3 : ∀ (i : Nat) (hi : i < ls.length), leaseOk ls[i] = true ∧ (i = 0 ∨ ((ls[i - 1]?.map (·.id)).getD 0) < ls[i].id) := by
      intro i hi
      have := h2 i (by simpa using hi)
      simpa [leaseStep, List.getElem?_eq_getElem hi] using this
    refine ⟨h1, fun l hl => ?_, fun i hi => ?_⟩
    · obtain ⟨i, hi, rfl⟩ := List.getElem_of_mem hl
      exact (h3 i hi).1
    · rcases (h3 (i + 1) hi).2 with h | h
      · omega
      · rw [Nat.add_sub_cancel, List.getElem?_eq_getElem (by omega : i < ls.length)] at h
        exact h
  · rintro ⟨h1, h2, h3⟩
    refine ⟨h1, fun i hi => ?_⟩
    have hi : i < ls.length := by simpa using hi
    rw [leaseStep, List.getElem?_eq_getElem hi]
    simp only [Bool.and_eq_true, Bool.or_eq_true, decide_eq_true_eq]
    refine ⟨h2 _ (List.getElem_mem hi), ?_⟩
    cases i with
    | zero => exact .inl rfl
    | succ i =>
      right
      rw [Nat.add_sub_cancel, List.getElem?_eq_getElem (by omega : i < ls.length)]
      exact h3 i hi
theorem lease_iff {l : Lease} (h : leaseOk l = true) : (1 ≤ l.id ∧ l.id ≤ 1000000000) ∧ (0 ≤ l.token ∧ l.token ≤ 1000000000) ∧ pathF l.path = true ∧ (0 ≤ l.made ∧ l.made ≤ 1000000000) ∧ (l.made + 1 ≤ l.limit ∧ l.limit ≤ 1000000000) ∧ (l.made + 1 ≤ l.ends ∧ l.ends ≤ l.limit) := by
  simp only [leaseOk, Bool.and_eq_true, inR_true] at h
  obtain ⟨h1, h2, h3, h4, h5, h6⟩ := h
  exact ⟨h1, h2, h3, h4, h5, h6⟩
theorem ids_lt {ls : List Lease} (h : bookOk ls = true) : ∀ {i j : Nat} (hj : j < ls.length) (hij : i < j), (ls[i]'(by omega)).id < ls[j].id := by
  intro i j hj hij
  have h3 := (bookOk_iff.1 h).2.2
  induction j with
  | zero => omega
  | succ j ih =>
    by_cases e : i = j
    · subst e; exact h3 i hj
    · exact Int.lt_trans (ih (by omega) (by omega)) (h3 j hj)
theorem ids_inj {ls : List Lease} (h : bookOk ls = true) {i j : Nat} (hi : i < ls.length) (hj : j < ls.length) (e : ls[i].id = ls[j].id) : i = j := by
  rcases Nat.lt_trichotomy i j with h1 | h1 | h1
  · have := ids_lt h hj h1; omega
  · exact h1
  · have := ids_lt h hi h1; omega
/-- What a drop by p leaves and takes. -/
def leftL (p : Lease → Bool) (ls : List Lease) : List Lease := ls.filter fun l => !p l
def goneL (p : Lease → Bool) (ls : List Lease) : List Lease := ls.filter p
theorem leftL_hit {p : Lease → Bool} {ls : List Lease} {k : Nat} (hk : k < ls.length) (h : p ls[k] = true) : leftL p (ls.take (k + 1)) = leftL p (ls.take k) := by
  rw [leftL, List.take_succ_eq_append_getElem hk, List.filter_append, List.filter_cons_of_neg (by rw [h]; simp)]
  simp [leftL]
theorem leftL_miss {p : Lease → Bool} {ls : List Lease} {k : Nat} (hk : k < ls.length) (h : p ls[k] = false) : leftL p (ls.take (k + 1)) = leftL p (ls.take k) ++ [ls[k]] := by
  rw [leftL, List.take_succ_eq_append_getElem hk, List.filter_append, List.filter_cons_of_pos (by rw [h]; rfl)]
  simp [leftL]
theorem goneL_miss {p : Lease → Bool} {ls : List Lease} {k : Nat} (hk : k < ls.length) (h : p ls[k] = false) : goneL p (ls.take (k + 1)) = goneL p (ls.take k) := by
  rw [goneL, List.take_succ_eq_append_getElem hk, List.filter_append, List.filter_cons_of_neg (by rw [h]; simp)]
  simp [goneL]
theorem goneL_hit {p : Lease → Bool} {ls : List Lease} {k : Nat} (hk : k < ls.length) (h : p ls[k] = true) : goneL p (ls.take (k + 1)) = goneL p (ls.take k) ++ [ls[k]] := by
  rw [goneL, List.take_succ_eq_append_getElem hk, List.filter_append, List.filter_cons_of_pos h]
  simp [goneL]
theorem leftL_len (p : Lease → Bool) (ls : List Lease) : (leftL p ls).length ≤ ls.length := List.length_filter_le _ _
theorem goneL_len (p : Lease → Bool) (ls : List Lease) : (goneL p ls).length ≤ ls.length := List.length_filter_le _ _
def hasId (x : Int) (l : Lease) : Bool := l.id == x
end Go.Proofs.YtlmmeeeoljlgcaaDoor
