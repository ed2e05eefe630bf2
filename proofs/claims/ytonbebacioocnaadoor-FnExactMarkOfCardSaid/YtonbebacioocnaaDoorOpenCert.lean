/- Arguments that are certificates: opened. No condition. -/
import Derived.Test.YtonbebacioocnaaDoorRows
import Derived.Test.YtonbebacioocnaaDoorAgg8
import Derived.Test.YtonbebacioocnaaDoorCert
namespace Go.Proofs.YtonbebacioocnaaDoor
open Go.RowKit Go.ChangeShapes Go.WideShapes Go.Deep Go.Joins
section
variable {H : Type} {enc : TypeId × Value → H} {w : World} {base : Nat} {spare : Nat → Bool} {held : Bool}
set_option maxRecDepth 100000 in
theorem open_cert {r : Reach} {b0 : Nat} {v : Value} {d : DataW H} {p : List MemPlace} (hv : Value.okWide Tryd.prog w r b0 23 v) (h : DataW.Trod enc Tryd.prog w base spare held 23 v d p) :
    ∃ c : Cert, v = valCert c ∧ c.owner.size ≤ maxLen := by
  obtain ⟨v0, v1, v2, v3, v4, v5, v6, v7, y0, y1, y2, y3, y4, y5, y6, y7, m, rfl, t0, t1, t2, t3, t4, t5, t6, t7⟩ := open_agg8 Tryd.underlying23 (by kernel_rfl) (by kernel_rfl) hv h
  obtain ⟨a0, e0, _, _⟩ := DataW.trod_int Tryd.underlying3 t0
  obtain ⟨a1, e1, _, w1⟩ := DataW.trod_string Tryd.underlying9 t1
  obtain ⟨a2, e2, _, _⟩ := DataW.trod_int Tryd.underlying3 t2
  obtain ⟨a3, e3, _, _⟩ := DataW.trod_int Tryd.underlying3 t3
  obtain ⟨a4, e4, _, _⟩ := DataW.trod_int Tryd.underlying3 t4
  obtain ⟨a5, e5, _⟩ := DataW.trod_bool Tryd.underlying4 t5
  obtain ⟨a6, e6, _, _⟩ := DataW.trod_int Tryd.underlying3 t6
  obtain ⟨a7, e7, _, _⟩ := DataW.trod_int Tryd.underlying3 t7
  simp only [List.cons.injEq, and_true] at e0 e1 e2 e3 e4 e5 e6 e7
  subst e0 e1 e2 e3 e4 e5 e6 e7
  exact ⟨⟨a0, a1, a2, a3, a4, a5, a6, a7⟩, rfl, w1⟩
end
end Go.Proofs.YtonbebacioocnaaDoor
