/- Leases: the renewal of one, in plain words. No condition. -/
import Derived.Test.YtlmmeeeoljlgcaaDoorLeaseQ
set_option linter.unusedVariables false
set_option linter.unusedSimpArgs false
namespace Go.Proofs.YtlmmeeeoljlgcaaDoor
open Go.RowKit
set_option linter.unusedVariables false
def zeroL : Lease := ⟨0, 0, ByteArray.empty, 0, 0, 0⟩
def findU (ls : List Lease) (x : Int) : Lease × Bool := if bookOk ls = true then (match findL x ls with | some l => (l, true) | none => (zeroL, false)) else (zeroL, false)
theorem findL_skip {x : Int} {ls : List Lease} {k : Nat} (hk : k < ls.length) (h : ¬ ls[k].id = x) : findL x (ls.drop k) = findL x (ls.drop (k + 1)) := by
  rw [List.drop_eq_getElem_cons hk, findL, List.find?_cons_of_neg (by simp [hasId, h])]; rfl
theorem findL_hit {x : Int} {ls : List Lease} {k : Nat} (hk : k < ls.length) (h : ls[k].id = x) : findL x (ls.drop k) = some ls[k] := by
  rw [List.drop_eq_getElem_cons hk, findL, List.find?_cons_of_pos (by simp [hasId, h])]
theorem findL_any (x : Int) (ls : List Lease) : (findL x ls).isSome = anyP (hasId x) ls := by
  rw [Bool.eq_iff_iff, findL, List.find?_isSome, anyP, List.any_eq_true]
theorem dropIdU_find (ls : List Lease) (x : Int) : dropIdU ls x = if (findU ls x).2 = true then (leftL (hasId x) ls, true) else (ls, false) := by
  unfold dropIdU findU
  by_cases h : bookOk ls = true
  · rw [if_pos h, if_pos h, ← findL_any]
    cases findL x ls <;> simp
  · rw [if_neg h, if_neg h]; simp
theorem findU_ok {ls : List Lease} {x : Int} {l : Lease} (h : findU ls x = (l, true)) : leaseOk l = true ∧ bookOk ls = true ∧ findL x ls = some l := by
  unfold findU at h
  by_cases hb : bookOk ls = true
  · rw [if_pos hb] at h
    cases hf : findL x ls with
    | none => rw [hf] at h; simp at h
    | some l' =>
      rw [hf] at h
      obtain rfl : l' = l := by simpa using h
      have hm : l' ∈ ls := List.mem_of_find?_eq_some hf
      exact ⟨(bookOk_iff.1 hb).2.1 _ hm, hb, rfl⟩
  · rw [if_neg hb] at h; simp at h
/-- The new ends. -/
def endsF (l : Lease) (now by_ : Int) : Int := if l.limit < now + by_ then l.limit else now + by_
def renOk (l : Lease) (now by_ : Int) : Bool := inR by_ 1 1000000000 && inR now l.made (l.ends - 1)
theorem ends_min (l : Lease) (now by_ : Int) : min (now + by_) l.limit = endsF l now by_ := by
  unfold endsF
  split <;> omega
theorem renU_yes {ls : List Lease} {x now by_ : Int} {l : Lease} (hb : bookOk ls = true) (hf : findL x ls = some l) (h : renOk l now by_ = true) : renU ls x now by_ = (renL x (endsF l now by_) ls, endsF l now by_) := by
  unfold renU
  rw [if_pos hb, hf, ← ends_min]
  exact if_pos (show (inR by_ 1 1000000000 && inR now l.made (l.ends - 1)) = true from h)
theorem renU_not {ls : List Lease} {x now by_ : Int} {l : Lease} (hf : findL x ls = some l) (h : renOk l now by_ = false) : renU ls x now by_ = (ls, 0) := by
  unfold renU
  by_cases hb : bookOk ls = true
  · rw [if_pos hb, hf]
    exact if_neg (show ¬ (inR by_ 1 1000000000 && inR now l.made (l.ends - 1)) = true by rw [Bool.not_eq_true]; exact h)
  · rw [if_neg hb]
theorem renU_none {ls : List Lease} {x now by_ : Int} (hf : findL x ls = none) : renU ls x now by_ = (ls, 0) := by
  unfold renU
  by_cases hb : bookOk ls = true
  · rw [if_pos hb, hf]
  · rw [if_neg hb]
theorem renU_bad {ls : List Lease} {x now by_ : Int} (hb : bookOk ls = false) : renU ls x now by_ = (ls, 0) := by
  unfold renU
  rw [if_neg (by rw [hb]; decide)]
theorem renU_lost {ls : List Lease} {x now by_ : Int} {l : Lease} (h : findU ls x = (l, false)) : renU ls x now by_ = (ls, 0) := by
  unfold findU at h
  by_cases hb : bookOk ls = true
  · rw [if_pos hb] at h
    cases hf : findL x ls with
    | none => exact renU_none hf
    | some l' => rw [hf] at h; simp at h
  · exact renU_bad (by rw [← Bool.not_eq_true]; exact hb)
theorem lease_bounds {l : Lease} (h : leaseOk l = true) : (0 ≤ l.made ∧ l.made ≤ 1000000000) ∧ (l.made + 1 ≤ l.limit ∧ l.limit ≤ 1000000000) ∧ (l.made + 1 ≤ l.ends ∧ l.ends ≤ l.limit) := by
  simp only [leaseOk, Bool.and_eq_true, inR_true] at h
  exact ⟨h.2.2.2.1, h.2.2.2.2.1, h.2.2.2.2.2⟩
end Go.Proofs.YtlmmeeeoljlgcaaDoor
