/- Plain functions of package slices, and small facts on slices that are read. No condition. -/
import Derived.Test.YtlmmeeeoljlgcaaDoorM1
set_option linter.unusedVariables false
set_option linter.unusedSimpArgs false
namespace Go.Proofs.YtlmmeeeoljlgcaaDoor
open Go.RowKit

/-- The first place at which p holds; -1 where there is none. -/
def ixP {α : Type} (p : α → Bool) : List α → Nat → Int
  | [], _ => -1
  | x :: xs, k => if p x then k else ixP p xs (k + 1)
/-- Whether a number is in a list. -/
def hasI (xs : List Int) (x : Int) : Bool := xs.contains x
theorem hasI_iff {xs : List Int} {x : Int} : hasI xs x = true ↔ x ∈ xs := by rw [hasI, List.contains_iff_mem]
def anyP {α : Type} (p : α → Bool) (xs : List α) : Bool := xs.any p
section
variable {α : Type} {p : α → Bool} {us : List α} {k j : Nat}
theorem ixP_skip (hk : k < us.length) (h : p us[k] = false) : ixP p (us.drop k) j = ixP p (us.drop (k + 1)) (j + 1) := by
  rw [List.drop_eq_getElem_cons hk, ixP, h]; simp
theorem ixP_hit (hk : k < us.length) (h : p us[k] = true) : ixP p (us.drop k) j = j := by
  rw [List.drop_eq_getElem_cons hk, ixP, h]; simp
end
theorem ixP_any {α : Type} (p : α → Bool) (us : List α) : ∀ k : Nat, (0 ≤ ixP p us k ↔ anyP p us = true) := by
  induction us with
  | nil => intro k; simp [ixP, anyP]
  | cons u us ih =>
    intro k
    rw [ixP, anyP, List.any_cons]
    cases h : p u with
    | true => simp
    | false =>
      simp only [Bool.false_eq_true, if_false, Bool.false_or]
      rw [ih (k + 1), anyP]
theorem ixP_spec {α : Type} (p : α → Bool) (us : List α) : ∀ k : Nat, (ixP p us k = -1 ∧ ∀ u ∈ us, p u = false) ∨ ∃ i, ∃ h : i < us.length, ixP p us k = ((k + i : Nat) : Int) ∧ p us[i] = true ∧ ∀ j (hj : j < i), p (us[j]'(by omega)) = false := by
  induction us with
  | nil => intro k; exact .inl ⟨rfl, fun _ h => by cases h⟩
  | cons u us ih =>
    intro k
    rw [ixP]
    by_cases h : p u = true
    · exact .inr ⟨0, by simp, by rw [if_pos h]; simp, h, fun j hj => absurd hj (Nat.not_lt_zero _)⟩
    · rw [if_neg h]
      rcases ih (k + 1) with ⟨h1, h2⟩ | ⟨i, hi, h1, h2, h3⟩
      · exact .inl ⟨h1, fun x hx => (List.mem_cons.1 hx).elim (fun e => by rw [e]; exact Bool.eq_false_iff.2 h) (fun hx => h2 x hx)⟩
      · refine .inr ⟨i + 1, by simp; omega, by rw [h1]; congr 1; omega, by simpa using h2, fun j hj => ?_⟩
        cases j with
        | zero => simpa using Bool.eq_false_iff.2 h
        | succ j => simpa using h3 j (by omega)

section
variable {w w' : World} {B k n c : Nat} {A : Option Addr} {xs : List Value}
theorem Rd.none_nil {α : Type} {us : List α} {f : α → List Value} {n : Nat} (h : Rd w B k none n c (us.flatMap f)) (hn : us.length = n) : n = 0 ∧ us = [] := by
  have h0 : n = 0 := by
    rcases Nat.eq_zero_or_pos n with h0 | h0
    · exact h0
    · obtain ⟨_, _, e, _⟩ := h.2.2.2 h0; cases e
  exact ⟨h0, List.eq_nil_of_length_eq_zero (by omega)⟩
theorem Rd.cells_some {ad : Addr} (h : Rd w B k (some ad) n c xs) (hb : Below B w w') : ∀ j u, xs[j]? = some u → w'.cell? (ad.add j) = some u := by
  intro j u hu
  have hl : j < xs.length := (List.getElem?_eq_some_iff.1 hu).1
  have hn : 0 < n := by
    rcases Nat.eq_zero_or_pos n with h0 | h0
    · subst h0; rw [h.1, Nat.zero_mul] at hl; omega
    · exact h0
  obtain ⟨b, off, e, hlt, hc⟩ := h.2.2.2 hn
  injection e with e
  subst e
  rw [Addr.add_lit, hb.cell (p := ⟨b, off + j, none⟩) hlt]
  exact hc j u hu
end
end Go.Proofs.YtlmmeeeoljlgcaaDoor
