/- Arguments of the kind queue: opened. No condition. -/
import Derived.Test.YtonbebacioocnaaRows
import Derived.Test.YtonbebacioocnaaOpen
import Derived.Test.YtonbebacioocnaaElJob
namespace Go.Proofs.Ytonbebacioocnaa
open Go.RowKit Go.ChangeShapes Go.WideShapes Go.Deep Go.Joins

section
variable {H : Type} {enc : TypeId × Value → H} {w : World} {base : Nat} {spare : Nat → Bool} {held : Bool}
theorem open_job {n : Nat} {cs : List Value} {y : DataW H × List MemPlace} (hl : cs.length = 3) (h : DataW.trod enc Try.prog w base spare held n 68 cs = some y) : ∃ u : Job, JobFits u ∧ cs = encJob u := by
  have cells_string : Try.prog.cellsOf 9 = 1 := by kernel_rfl
  have cells_int : Try.prog.cellsOf 3 = 1 := by kernel_rfl
  match cs, hl with
  | [c0, c1, c2], _ =>
    obtain ⟨y0, y1, y2, m, _, _, h0, h1, h2⟩ := trod_struct3 Try.underlying68 h
    obtain ⟨s, e0, _, hs⟩ := DataW.trod_string Try.underlying9 h0
    obtain ⟨t, e1, _, ht⟩ := DataW.trod_int Try.underlying3 h1
    obtain ⟨u, e2, _, hu⟩ := DataW.trod_int Try.underlying3 h2
    simp [cells_string, cells_int] at e0 e1 e2
    subst e0 e1 e2
    exact ⟨⟨s, t, u⟩, hs, rfl⟩
set_option maxRecDepth 100000 in
theorem open_queue {r : Reach} {b0 : Nat} {v : Value} {d : DataW H} {p : List MemPlace} (hv : Value.okWide Try.prog w r b0 24 v) (h : DataW.Trod enc Try.prog w base spare held 24 v d p) :
    ∃ A n c, ∃ us : List Job, v = .agg #[.slice A n c] ∧ Rd w w.heap.size 3 A n c (us.flatMap encJob) ∧ us.length = n ∧ (∀ u ∈ us, JobFits u) := by
  have hC : Try.prog.cellsOf 24 = 1 := by kernel_rfl
  have hC2 : Try.prog.cellsOf 22 = 1 := by kernel_rfl
  obtain ⟨cs, rfl, hsz⟩ := okWide_struct Try.underlying24 hv
  obtain ⟨l⟩ := cs
  have hl : l.length = 1 := hsz.trans hC
  obtain ⟨fuel, hf⟩ := h
  match l, hl with
  | [c0], _ =>
    obtain ⟨y0, m, _, _, t0⟩ := trod_struct1 Try.underlying24 hf
    simp [Value.cells, hC2] at t0
    obtain ⟨A, n, c, us, e, hr, hn, hq⟩ := open_sl encJob 3 encJob_len (by omega) JobFits Try.underlying22 (by kernel_rfl) (fun _ _ _ hl ht => open_job hl ht) t0
    simp only [List.cons.injEq, and_true] at e
    subst e
    exact ⟨A, n, c, us, rfl, hr, hn, hq⟩
end
end Go.Proofs.Ytonbebacioocnaa
