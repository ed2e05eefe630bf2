/- Paths below a prefix, in plain words. No condition. -/
import Derived.Test.YtlmmeeeoljlgcaaDoorPathP
set_option linter.unusedVariables false
set_option linter.unusedSimpArgs false
namespace Go.Proofs.YtlmmeeeoljlgcaaDoor
open Go.RowKit
set_option linter.unusedVariables false
theorem under_iff (p s : List UInt8) : List.isPrefixOf (p ++ [47]) (s ++ [47]) = true ↔ (s = p ∨ (p.length < s.length ∧ s.take p.length = p ∧ s[p.length]? = some 47)) := by
  rw [List.isPrefixOf_iff_prefix, List.prefix_iff_eq_take]
  simp only [List.length_append, List.length_singleton]
  by_cases h : p.length < s.length
  · rw [List.take_append_of_le_length (by omega), List.take_succ_eq_append_getElem h]
    constructor
    · intro e
      have h1 := List.append_inj' e rfl
      refine .inr ⟨h, h1.1.symm, ?_⟩
      rw [List.getElem?_eq_getElem h]
      have h2 : (47 : UInt8) = s[p.length] := by simpa using h1.2
      rw [← h2]
    · rintro (e | ⟨_, e1, e2⟩)
      · subst e; omega
      · rw [List.getElem?_eq_getElem h] at e2
        have h2 : s[p.length] = 47 := by simpa using e2
        rw [e1, h2]
  · by_cases h2 : p.length = s.length
    · rw [List.take_of_length_le (by simp; omega)]
      constructor
      · intro e; exact .inl (List.append_inj' e rfl).1.symm
      · rintro (e | ⟨h3, _⟩)
        · rw [e]
        · omega
    · constructor
      · intro e
        have := congrArg List.length e
        simp at this
        omega
      · rintro (e | ⟨h3, _⟩)
        · subst e; omega
        · omega
def underF (p s : ByteArray) : Bool := pathF p && (pathF s && List.isPrefixOf (p.data.toList ++ [47]) (s.data.toList ++ [47]))
end Go.Proofs.YtlmmeeeoljlgcaaDoor
