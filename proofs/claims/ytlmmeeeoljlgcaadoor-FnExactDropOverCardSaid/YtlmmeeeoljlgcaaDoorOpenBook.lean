/- Arguments of the kinds book and list of numbers: opened. No condition. -/
import Derived.Test.YtlmmeeeoljlgcaaDoorRows
import Derived.Test.YtlmmeeeoljlgcaaDoorOpen
import Derived.Test.YtlmmeeeoljlgcaaDoorAgg6
import Derived.Test.YtlmmeeeoljlgcaaDoorM2
import Derived.Test.YtlmmeeeoljlgcaaDoorEnInt
set_option linter.unusedVariables false
set_option linter.unusedSimpArgs false
namespace Go.Proofs.YtlmmeeeoljlgcaaDoor
open Go.RowKit Go.ChangeShapes Go.WideShapes Go.Deep Go.Joins

section
variable {H : Type} {enc : TypeId × Value → H} {w : World} {base : Nat} {spare : Nat → Bool} {held : Bool}
theorem open_lease {n : Nat} {cs : List Value} {y : DataW H × List MemPlace} (hl : cs.length = 6) (h : DataW.trod enc Tryd.prog w base spare held n 74 cs = some y) : ∃ u : Lease, LeaseFits u ∧ cs = encLease u := by
  have cells_string : Tryd.prog.cellsOf 9 = 1 := by kernel_rfl
  have cells_int : Tryd.prog.cellsOf 3 = 1 := by kernel_rfl
  match cs, hl with
  | [c0, c1, c2, c3, c4, c5], _ =>
    obtain ⟨y0, y1, y2, y3, y4, y5, m, h0, h1, h2, h3, h4, h5⟩ := trod_struct6 Tryd.underlying74 h
    obtain ⟨a0, e0, _, _⟩ := DataW.trod_int Tryd.underlying3 h0
    obtain ⟨a1, e1, _, _⟩ := DataW.trod_int Tryd.underlying3 h1
    obtain ⟨a2, e2, _, w2⟩ := DataW.trod_string Tryd.underlying9 h2
    obtain ⟨a3, e3, _, _⟩ := DataW.trod_int Tryd.underlying3 h3
    obtain ⟨a4, e4, _, _⟩ := DataW.trod_int Tryd.underlying3 h4
    obtain ⟨a5, e5, _, _⟩ := DataW.trod_int Tryd.underlying3 h5
    simp [cells_string, cells_int] at e0 e1 e2 e3 e4 e5
    subst e0 e1 e2 e3 e4 e5
    exact ⟨⟨a0, a1, a2, a3, a4, a5⟩, w2, rfl⟩
set_option maxRecDepth 100000 in
theorem open_book {r : Reach} {b0 : Nat} {v : Value} {d : DataW H} {p : List MemPlace} (hv : Value.okWide Tryd.prog w r b0 24 v) (h : DataW.Trod enc Tryd.prog w base spare held 24 v d p) :
    ∃ A n c, ∃ us : List Lease, v = .agg #[.slice A n c] ∧ Rd w w.heap.size 6 A n c (us.flatMap encLease) ∧ us.length = n ∧ (∀ u ∈ us, LeaseFits u) := by
  have hC : Tryd.prog.cellsOf 24 = 1 := by kernel_rfl
  have hC2 : Tryd.prog.cellsOf 22 = 1 := by kernel_rfl
  obtain ⟨cs, rfl, hsz⟩ := okWide_struct Tryd.underlying24 hv
  obtain ⟨l⟩ := cs
  have hl : l.length = 1 := hsz.trans hC
  obtain ⟨fuel, hf⟩ := h
  match l, hl with
  | [c0], _ =>
    obtain ⟨y0, m, _, _, t0⟩ := trod_struct1 Tryd.underlying24 hf
    simp [Value.cells, hC2] at t0
    obtain ⟨A, n, c, us, e, hr, hn, hq⟩ := open_sl encLease 6 encLease_len (by omega) LeaseFits Tryd.underlying22 (by kernel_rfl) (fun _ _ _ hl ht => open_lease hl ht) t0
    simp only [List.cons.injEq, and_true] at e
    subst e
    exact ⟨A, n, c, us, rfl, hr, hn, hq⟩
end
end Go.Proofs.YtlmmeeeoljlgcaaDoor
