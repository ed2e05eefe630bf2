/- Texts: equal, below, rising lists. No condition. -/
import Derived.Test.YtnhdpcmnnjgdkaaM1
import Derived.Laws.StructEq
import Derived.Sort.Walk0
set_option linter.unusedVariables false
set_option linter.unusedSimpArgs false
namespace Go.Proofs.Ytnhdpcmnnjgdkaa
open Go.RowKit

def ltS (a b : ByteArray) : Bool := Op.bytesLess a.toList b.toList
def gtS (a b : ByteArray) : Bool := !(Op.bytesLess a.toList b.toList)
theorem gtS_not (a b : ByteArray) : gtS a b = !ltS a b := rfl
theorem ltS_lt {a b : ByteArray} : ltS a b = true ↔ a.toList < b.toList := by unfold ltS; rw [bytesLess_eq]; simp
theorem ltS_irrefl (a : ByteArray) : ltS a a = false := by
  cases h : ltS a a with
  | false => rfl
  | true => exact absurd (ltS_lt.1 h) (List.lt_irrefl _)
theorem ltS_trans {a b c : ByteArray} (h : ltS a b = true) (h' : ltS b c = true) : ltS a c = true := ltS_lt.2 (List.lt_trans (ltS_lt.1 h) (ltS_lt.1 h'))
def eqB (a b : ByteArray) : Bool := a.toList == b.toList
theorem eqB_iff {a b : ByteArray} : eqB a b = true ↔ a = b := by
  unfold eqB
  rw [beq_iff_eq, ByteArray.toList_eq, ByteArray.toList_eq]
  exact ⟨fun h => ByteArray.ext (Array.toList_inj.1 h), fun h => by rw [h]⟩
theorem ltS_ne {a b : ByteArray} (h : ltS a b = true) : a ≠ b := by
  rintro rfl
  rw [ltS_irrefl] at h
  cases h
theorem ltS_asymm {a b : ByteArray} (h : ltS a b = true) : ltS b a = false := by
  cases h' : ltS b a with
  | false => rfl
  | true => have := ltS_trans h h'; rw [ltS_irrefl] at this; cases this
theorem ltS_tri (a b : ByteArray) : ltS a b = true ∨ a = b ∨ ltS b a = true := by
  rw [ltS_lt, ltS_lt]
  by_cases h1 : a.toList < b.toList
  · exact .inl h1
  · by_cases h2 : b.toList < a.toList
    · exact .inr (.inr h2)
    · exact .inr (.inl (eqB_iff.1 (by unfold eqB; rw [beq_iff_eq]; exact List.le_antisymm (List.not_lt.1 h2) (List.not_lt.1 h1))))
/-- Each text is below the next. -/
def Rises (l : List ByteArray) : Prop := ∀ i, (h : i + 1 < l.length) → ltS l[i] l[i + 1] = true
theorem Rises.lt {l : List ByteArray} (h : Rises l) : ∀ {i j : Nat} (hj : j < l.length) (hij : i < j), ltS (l[i]'(by omega)) l[j] = true := by
  intro i j
  induction j with
  | zero => intro _ h; omega
  | succ j ih =>
    intro hj hij
    by_cases e : i = j
    · subst e; exact h i hj
    · exact ltS_trans (ih (by omega) (by omega)) (h j hj)
theorem Rises.inj {l : List ByteArray} (h : Rises l) {i j : Nat} (hi : i < l.length) (hj : j < l.length) (e : l[i] = l[j]) : i = j := by
  rcases Nat.lt_trichotomy i j with h1 | h1 | h1
  · exact absurd e (ltS_ne (h.lt hj h1))
  · exact h1
  · exact absurd e.symm (ltS_ne (h.lt hi h1))
end Go.Proofs.Ytnhdpcmnnjgdkaa
