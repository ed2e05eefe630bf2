/- From the readings of arguments to the walks' words. No condition. -/
import Derived.Test.YtlmmeeeoljlgcaaDoorM1
import Derived.Deep.Slices
import Derived.Deep.Fields
import Derived.ChangeSame
import Derived.ProofKit
import Derived.OpenShut
import Derived.ShutString
import Derived.ChangeOld
import Derived.Lib.SmallJoins
set_option linter.unusedVariables false
set_option linter.unusedSimpArgs false
namespace Go.Proofs.YtlmmeeeoljlgcaaDoor
open Go.RowKit Go.ChangeShapes Go.WideShapes Go.Deep Go.Joins

/-- Elements one by one, as a list. -/
theorem collect {α : Type} {w : World} (enc : α → List Value) (k : Nat) (hk : ∀ x, (enc x).length = k) (P : α → Prop) (a : Addr) : ∀ m : Nat, (∀ i, i < m → ∃ x : α, P x ∧ ∀ j u, (enc x)[j]? = some u → w.cell? (a.add (i * k + j)) = some u) →
    ∃ xs : List α, xs.length = m ∧ (∀ x ∈ xs, P x) ∧ ∀ j u, (xs.flatMap enc)[j]? = some u → w.cell? (a.add j) = some u
  | 0, _ => ⟨[], rfl, fun _ h => absurd h (by simp), fun j u h => by simp at h⟩
  | m + 1, h => by
    obtain ⟨xs, hl, hp, hc⟩ := collect enc k hk P a m fun i hi => h i (by omega)
    obtain ⟨x, hx, hcx⟩ := h m (by omega)
    refine ⟨xs ++ [x], by simp [hl], fun y hy => ?_, fun j u hu => ?_⟩
    · rcases List.mem_append.1 hy with h1 | h1
      · exact hp y h1
      · rw [List.mem_singleton.1 h1]; exact hx
    · rw [List.flatMap_append, List.getElem?_append] at hu
      have hfl := flat_len enc k hk xs
      split at hu
      · exact hc j u hu
      · rename_i hge
        have := hcx (j - (xs.flatMap enc).length) u (by simpa using hu)
        rw [hfl, hl] at this
        rwa [show m * k + (j - m * k) = j by rw [hfl, hl] at hge; omega] at this

/-- A slice of structs that came in. -/
theorem rd_of_cells {α : Type} {w : World} (enc : α → List Value) (k : Nat) (hk : ∀ x, (enc x).length = k) (hk0 : 0 < k) (P : α → Prop) (a : Addr) (len cap : Nat) (hl : len ≤ cap) (hm : cap ≤ maxLen)
    (h : ∀ i, i < len → ∃ x : α, P x ∧ ∀ j u, (enc x)[j]? = some u → w.cell? (a.add (i * k + j)) = some u) :
    ∃ xs : List α, xs.length = len ∧ (∀ x ∈ xs, P x) ∧ Rd w w.heap.size k (some a) len cap (xs.flatMap enc) := by
  obtain ⟨xs, hx, hp, hc⟩ := collect enc k hk P a len h
  refine ⟨xs, hx, hp, by rw [flat_len enc k hk, hx], hl, hm, fun hn => ?_⟩
  obtain ⟨b, off, spot⟩ := a
  have h0 : 0 < (xs.flatMap enc).length := by rw [flat_len enc k hk, hx]; exact Nat.mul_pos hn hk0
  have hc0 := hc 0 _ (List.getElem?_eq_getElem h0)
  have hspot : spot = none := by simpa [Addr.add] using World.cell?_spot hc0
  subst hspot
  refine ⟨b, off, rfl, ?_, fun j u hu => ?_⟩
  · have := World.block_lt_of_cell? w _ hc0
    simpa [Addr.add] using this
  · have := hc j u hu
    rwa [Addr.add_lit] at this

section
variable {H : Type} {enc' : TypeId × Value → H} {P : Program} {w : World} {base : Nat} {spare : Nat → Bool} {held : Bool}
theorem open_sl {α : Type} (enc : α → List Value) (k : Nat) (hk : ∀ x, (enc x).length = k) (hk0 : 0 < k) (Q : α → Prop) {t e : TypeId} {fuel : Nat} {cs : List Value} {x : DataW H × List MemPlace}
    (ht : P.underlying t = some (.slice e)) (hC : P.cellsOf e = k) (hel : ∀ n cs' y, cs'.length = k → DataW.trod enc' P w base spare held n e cs' = some y → ∃ x : α, Q x ∧ cs' = enc x)
    (h : DataW.trod enc' P w base spare held fuel t cs = some x) :
    ∃ A n c, ∃ xs : List α, cs = [.slice A n c] ∧ Rd w w.heap.size k A n c (xs.flatMap enc) ∧ xs.length = n ∧ ∀ x ∈ xs, Q x := by
  rcases open_slice ht h with ⟨rfl, _⟩ | ⟨a, len, cap, m, n, D, Pl, rfl, hb, hl, hm, hmm, hx, hi⟩
  · exact ⟨none, 0, 0, [], rfl, ⟨by simp, Nat.le_refl _, Nat.zero_le _, fun h => absurd h (by omega)⟩, rfl, fun _ h => absurd h (by simp)⟩
  · obtain ⟨xs, hx1, hx2, hx3⟩ := rd_of_cells enc k hk hk0 Q a len cap hl hm (fun i him => by
      have him' : i < m := by rw [hmm]; split <;> omega
      obtain ⟨cs', hc, ht'⟩ := hi i him'
      rw [hC] at hc
      obtain ⟨_, hcl, hat⟩ := World.cells?_some hc
      obtain ⟨x, hq, rfl⟩ := hel _ _ _ hcl ht'
      refine ⟨x, hq, fun j u hu => ?_⟩
      have hj : j < k := by rw [← hcl]; exact (List.getElem?_eq_some_iff.1 hu).1
      have := hat j hj
      rw [Go.Deep.add_add] at this
      rw [this, hu])
    exact ⟨_, _, _, xs, rfl, hx3, hx1, hx2⟩
theorem open_str0 {P : Program} {t : TypeId} {r : Reach} {b0 : Nat} {v : Value} {d : DataW H} {p : List MemPlace} (ht : P.underlying t = some .string) (hv : Value.okWide P w r b0 t v) (h : DataW.Trod enc' P w base spare held t v d p) :
    ∃ s : ByteArray, v = .string s ∧ s.size ≤ maxLen := by
  obtain ⟨s, rfl, _, _, hs⟩ := Go.ChangeMaps.open_string ht hv h
  exact ⟨s, rfl, hs⟩
theorem open_int0 {P : Program} {t : TypeId} {r : Reach} {b0 : Nat} {v : Value} {d : DataW H} {p : List MemPlace} {k : IntKind} (ht : P.underlying t = some (.int k)) (hv : Value.okWide P w r b0 t v) (h : DataW.Trod enc' P w base spare held t v d p) :
    ∃ n, v = .int k n ∧ (Lit.int k n).wf = true := by
  obtain ⟨n, rfl, _, _, hn⟩ := open_int ht hv h
  exact ⟨n, rfl, hn⟩
end
end Go.Proofs.YtlmmeeeoljlgcaaDoor
