/- Rows in which cells are laid, and from which an element is taken. No condition. -/
import Derived.Test.YtlmmeeeoljlgcaaDoorM1
import Derived.Laws.IdiomCopy
import Derived.Lib.SliceRun
set_option linter.unusedVariables false
set_option linter.unusedSimpArgs false
namespace Go.Proofs.YtlmmeeeoljlgcaaDoor
open Go.RowKit
set_option linter.unusedVariables false

theorem Own.setCells {lo hi k n c g : Nat} {e : TypeId} : ∀ (vs : List Value) (j : Nat) (w : World) (xs : List Value), Own w lo hi e k (.slice (some ⟨g, 0, none⟩) n c) n xs → Own (w.setCells g j vs) lo hi e k (.slice (some ⟨g, 0, none⟩) n c) n (setL xs j vs)
  | [], _, _, _, h => h
  | v :: vs, j, w, xs, h => Own.setCells vs (j + 1) _ _ (h.set_in v)
theorem Chg.setCells {lo hi g : Nat} (hg : lo ≤ g ∧ g < hi) : ∀ (vs : List Value) (j : Nat) (a w : World), Chg a w lo hi → Chg a (w.setCells g j vs) lo hi
  | [], _, _, _, h => h
  | v :: vs, j, a, w, h => Chg.setCells hg vs (j + 1) a _ (h.set (.inl hg) v)
theorem Own.cut {w : World} {lo hi k n m c g : Nat} {e : TypeId} {xs : List Value} (h : Own w lo hi e k (.slice (some ⟨g, 0, none⟩) n c) n xs) (hm : m ≤ n) : Own w lo hi e k (.slice (some ⟨g, 0, none⟩) m c) m (xs.take (m * k)) := by
  have hmk : m * k ≤ n * k := Nat.mul_le_mul_right _ hm
  refine ⟨⟨by rw [List.length_take, h.1.1]; omega, ?_⟩, h.2.1, h.2.2⟩
  rcases h.1.2 with ⟨e1, _⟩ | ⟨g', cap, cur, e1, hb, hgg, hnc, hcm, hcs, ht⟩
  · cases e1
  · injection e1 with e2 _ e3
    injection e2 with e4
    injection e4 with e5
    subst e5 e3
    exact .inr ⟨g, c, cur, rfl, hb, hgg, by omega, hcm, hcs, by rw [← ht, List.take_take, Nat.min_eq_left hmk]⟩
theorem Own.cellAt {w : World} {lo hi k n c g : Nat} {e : TypeId} {xs : List Value} (h : Own w lo hi e k (.slice (some ⟨g, 0, none⟩) n c) n xs) {j : Nat} {u : Value} (hu : xs[j]? = some u) : w.cell? ⟨g, j, none⟩ = some u := by
  rcases h.1.2 with ⟨e1, _⟩ | ⟨g', cap, cur, e1, hb, hgg, hnc, hcm, hcs, ht⟩
  · cases e1
  · injection e1 with e2 _ e3
    injection e2 with e4
    injection e4 with e5
    subst e5 e3
    rw [cell_of_row _ _ _ _ _ _ hgg, ← Array.getElem?_toList]
    have hl := (List.getElem?_eq_some_iff.1 hu).1
    rw [h.1.1] at hl
    rw [← ht, List.getElem?_take, if_pos hl] at hu
    exact hu
theorem Own.lenCap {w : World} {lo hi k n c g : Nat} {e : TypeId} {xs : List Value} (h : Own w lo hi e k (.slice (some ⟨g, 0, none⟩) n c) n xs) : n ≤ c ∧ c ≤ maxLen := ⟨h.rd.2.1, h.rd.2.2.1⟩

theorem run_clear_one {P : Program} (w : World) (t e ty : TypeId) (z : Value) (zs : List Value) (ht : P.underlying t = some (.slice e)) (hv : ∀ w, (zeroValue e).run P w = .ok z w) (hz : z.cells = zs.toArray) (h1 : ∀ u ∈ zs, u.oneCell' = true) (b o c : Nat)
    (hc : ∀ j, j < zs.length → (w.cell? ⟨b, o + j, none⟩).isSome = true) (hf : ∀ j, j < zs.length → w.frozen? ⟨b, o + j, none⟩ = false) :
    (Builtin.clear_ #[t] ty #[.slice (some ⟨b, o, none⟩) 1 c]).run P w = .ok (.tuple #[]) (w.setCells b o zs) := by
  have hzc : (Builtin.zeroCells z.cells 1).toList = zs := by
    rw [hz]
    simp only [Builtin.zeroCells, Nat.one_mul]
    apply List.ext_getElem
    · simp
    · intro i h1 h2
      have h3 : i < zs.length := by simpa using h1
      simp [Nat.mod_eq_of_lt h3, h3]
  have hst := run_storeCells_cells (P := P) b o zs 0 w (by simpa using hc) (by simpa using hf) h1
  simp only [Nat.add_zero] at hst
  simp [Builtin.clear_, run_underlying ht, hv, hzc, hst]

theorem setL_take0 (cs vs : List Value) (p : Nat) (h : p + vs.length ≤ cs.length) : (setL cs p vs).take p = cs.take p := by
  have h1 := setL_take vs cs p h
  have h2 := congrArg (List.take p) h1
  rw [List.take_take, Nat.min_eq_left (by omega)] at h2
  rw [h2, List.take_append_of_le_length (by rw [List.length_take]; omega), List.take_take, Nat.min_self]
theorem del_flat {α : Type} {enc : α → List Value} {k : Nat} (hk : ∀ x, (enc x).length = k) {us : List α} {n i : Nat} (hn : us.length = n) (hi : i < n) (zs : List Value) (hz : zs.length = k) :
    (setL (setL (us.flatMap enc) (i * k) ((us.drop (i + 1)).flatMap enc)) ((n - 1) * k) zs).take ((n - 1) * k) = (us.eraseIdx i).flatMap enc := by
  have l1 : (us.flatMap enc).length = n * k := by rw [flat_len enc k hk, hn]
  have l2 : ((us.drop (i + 1)).flatMap enc).length = (n - 1 - i) * k := by rw [flat_len enc k hk, List.length_drop, hn]; congr 1; omega
  have l3 : (n - 1) * k + k = n * k := by rw [← Nat.succ_mul]; congr 1; omega
  have l4 : i * k + (n - 1 - i) * k = (n - 1) * k := by rw [← Nat.add_mul]; congr 1; omega
  rw [setL_take0 _ _ _ (by rw [setL_len, l1, hz]; omega)]
  have h1 := setL_take ((us.drop (i + 1)).flatMap enc) (us.flatMap enc) (i * k) (by rw [l1, l2]; omega)
  rw [l2, l4] at h1
  rw [h1]
  have h2 : us.flatMap enc = (us.take i).flatMap enc ++ (us.drop i).flatMap enc := by rw [← List.flatMap_append, List.take_append_drop]
  have l5 : ((us.take i).flatMap enc).length = i * k := by rw [flat_len enc k hk, List.length_take, hn]; congr 1; omega
  rw [h2, List.take_append_of_le_length (by omega), List.take_of_length_le (by omega), ← List.flatMap_append, List.eraseIdx_eq_take_drop_succ]
end Go.Proofs.YtlmmeeeoljlgcaaDoor
