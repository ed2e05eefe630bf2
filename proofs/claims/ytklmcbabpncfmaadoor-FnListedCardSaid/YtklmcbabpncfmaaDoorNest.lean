/- Rows that read and lie at some block or above; elements appended to a made row. No condition. -/
import Derived.Test.YtklmcbabpncfmaaDoorHp
import Derived.Test.YtklmcbabpncfmaaDoorCore
namespace Go.Proofs.YtklmcbabpncfmaaDoor
open Go.RowKit
/-- A row that reads, and lies at lo or above. -/
def RdL (lo k : Nat) (w : World) (A : Option Addr) (n c : Nat) (xs : List Value) : Prop := Rd w w.heap.size k A n c xs ∧ ∀ a, A = some a → lo ≤ a.block
theorem RdL.set {lo k g o n c : Nat} {w : World} {A : Option Addr} {xs : List Value} {v : Value} (h : RdL lo k w A n c xs) (hg : g < lo) : RdL lo k (w.setCell ⟨g, o, none⟩ v) A n c xs := by
  refine ⟨⟨h.1.1, h.1.2.1, h.1.2.2.1, fun h0 => ?_⟩, h.2⟩
  obtain ⟨b, off, e, hb, hc⟩ := h.1.2.2.2 h0
  have hl := h.2 _ e
  have hsz : (w.setCell ⟨g, o, none⟩ v).heap.size = w.heap.size := by simp [World.setCell]
  refine ⟨b, off, e, by rw [hsz]; exact hb, fun j u hu => ?_⟩
  have hl2 : lo ≤ b := hl
  exact (World.cell?_of_block (w := w) (a := ⟨b, off + j, none⟩) (Below.heap_setCell w ⟨g, o, none⟩ v b (show b ≠ g by omega))).trans (hc j u hu)
theorem take_flat_new {α : Type} {enc : α → List Value} {m : Nat} (he : ∀ x, (enc x).length = m) {cs : List Value} {vs : List α} {n k : Nat} (hv : vs.length = k) (hk : k < n) (hc : cs.take (k * m) = vs.flatMap enc) (hl : cs.length = n * m) (v : α) : (setL cs (k * m) (enc v)).take ((k + 1) * m) = (vs ++ [v]).flatMap enc := by
  have hL : (vs ++ List.replicate (n - k) v).length = n := by simp; omega
  have h := take_flat (us := vs ++ List.replicate (n - k) v) he (i := k) (by omega) (by rw [List.take_left' hv]; exact hc) (by rw [hl, hL])
  have e1 : (vs ++ List.replicate (n - k) v)[k]'(by omega) = v := by rw [List.getElem_append_right (by omega)]; simp
  have e2 : (vs ++ List.replicate (n - k) v).take (k + 1) = vs ++ [v] := by
    obtain ⟨q, hq⟩ : ∃ q, n - k = q + 1 := ⟨n - k - 1, by omega⟩
    rw [hq, List.replicate_succ, List.take_append, List.take_of_length_le (by omega), show k + 1 - vs.length = 1 by omega]; rfl
  rw [e1, e2] at h
  exact h
theorem leftOf_m1 {left : Int} {n : Nat} (h : leftOf left n < 0) : leftOf left n = -1 := by
  unfold leftOf at *
  split at h <;> omega
end Go.Proofs.YtklmcbabpncfmaaDoor
