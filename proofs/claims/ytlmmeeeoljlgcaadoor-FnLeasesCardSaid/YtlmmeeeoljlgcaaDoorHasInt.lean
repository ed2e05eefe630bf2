/- Lists of numbers: whether one is there, copies (the reference's and package slices'). No condition. -/
import Derived.Test.YtlmmeeeoljlgcaaDoorM2
import Derived.Test.YtlmmeeeoljlgcaaDoorShelf
set_option linter.unusedVariables false
set_option linter.unusedSimpArgs false
namespace Go.Proofs.YtlmmeeeoljlgcaaDoor
open Go.RowKit
set_option linter.unusedVariables false
set_option linter.unusedSimpArgs false
theorem Rd.intAt {w : World} {b off n c : Nat} {us : List Int} (hr : Rd w w.heap.size 1 (some ⟨b, off, none⟩) n c (us.flatMap encInt)) (hn : us.length = n) {k : Nat} (hk : k < us.length) (W : World) (hb : Below w.heap.size w W) : W.cell? ⟨b, off + k, none⟩ = some (.int .i64 us[k]) := by
  obtain ⟨b', off', hA', hb', hcell⟩ := hr.elem encInt_len hn (i := k) (by omega)
  obtain ⟨rfl, rfl⟩ : b = b' ∧ off = off' := by simpa using hA'
  exact (hb.cell (p := ⟨b, off + k, none⟩) hb').trans (by have := hcell 0 _ rfl; simpa using this)
theorem contains_at {us : List Int} {k : Nat} (hk : k < us.length) {x : Int} (h : us[k] = x) : hasI us x = true := by
  rw [hasI_iff, ← h]; exact List.getElem_mem hk
theorem contains_snoc {us : List Int} {k : Nat} (hk : k < us.length) {x : Int} (h : ¬ us[k] = x) (h1 : hasI (us.take k) x = false) : hasI (us.take (k + 1)) x = false := by
  rw [← Bool.not_eq_true, hasI_iff] at h1 ⊢
  rw [List.take_succ_eq_append_getElem hk, List.mem_append]
  rintro (h2 | h2)
  · exact h1 h2
  · have h3 : x = us[k] := by simpa using h2
    exact h h3.symm
theorem zs_getD {zs : List Int} {j : Nat} (hj : j < zs.length) : zs.getD j 0 = zs[j] := by simp [List.getD, hj]
theorem containsInt_any (A : Option Addr) (n c : Nat) (us : List Int) (x : Int) (w : World) (hr : Rd w w.heap.size 1 A n c (us.flatMap encInt)) (hn : us.length = n) :
    Calls Tryd.prog 51 #[.slice A n c, .int .i64 x] w fun e w' => e = .returned (.bool (hasI us x)) ∧ w' = w := by
  have hc := hr.2.1
  have hm := hr.2.2.1
  unfold maxLen at hm
  by_cases h0 : n = 0
  · subst h0
    have hu : us = [] := List.eq_nil_of_length_eq_zero hn
    subst hu
    exact (Tryd.slices_Contains_int_empty A c x w).mono fun e w' h => h
  · obtain ⟨b, off, rfl, hb, -⟩ := hr.elem encInt_len hn (i := 0) (by omega)
    refine (Tryd.slices_Contains_int b off n c us x w (by omega) (by omega) (fun j hj => by rw [zs_getD hj]; exact Rd.intAt hr hn hj w (Below.refl _ _))).mono ?_
    rintro e w' ⟨h1, h2⟩
    rw [List.take_of_length_le (by omega)] at h1
    exact ⟨h1, h2⟩
end Go.Proofs.YtlmmeeeoljlgcaaDoor
