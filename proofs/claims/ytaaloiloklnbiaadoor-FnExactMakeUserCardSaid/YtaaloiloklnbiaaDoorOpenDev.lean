/- Arguments of the kinds role and device: opened. No condition. -/
import Derived.Test.YtaaloiloklnbiaaDoorRows
import Derived.Test.YtaaloiloklnbiaaDoorOpen
namespace Go.Proofs.YtaaloiloklnbiaaDoor
open Go.RowKit Go.ChangeShapes Go.WideShapes Go.Deep Go.Joins
section
variable {H : Type} {enc : TypeId × Value → H} {w : World} {base : Nat} {spare : Nat → Bool} {held : Bool}
set_option maxRecDepth 100000 in
theorem open_str' {r : Reach} {b0 : Nat} {v : Value} {d : DataW H} {p : List MemPlace} (hv : Value.okWide Tryd.prog w r b0 9 v) (h : DataW.Trod enc Tryd.prog w base spare held 9 v d p) : ∃ s : ByteArray, v = .string s ∧ s.size ≤ maxLen := open_str0 Tryd.underlying9 hv h
set_option maxRecDepth 100000 in
theorem open_int' {r : Reach} {b0 : Nat} {v : Value} {d : DataW H} {p : List MemPlace} (hv : Value.okWide Tryd.prog w r b0 3 v) (h : DataW.Trod enc Tryd.prog w base spare held 3 v d p) : ∃ n, v = .int .i64 n ∧ (Lit.int .i64 n).wf = true := open_int0 Tryd.underlying3 hv h
set_option maxRecDepth 100000 in
theorem open_role {r : Reach} {b0 : Nat} {v : Value} {d : DataW H} {p : List MemPlace} (hv : Value.okWide Tryd.prog w r b0 45 v) (h : DataW.Trod enc Tryd.prog w base spare held 45 v d p) :
    ∃ (nm pf : ByteArray), ∃ ttl lim, v = .agg #[.string nm, .string pf, .int .i64 ttl, .int .i64 lim] ∧ nm.size ≤ maxLen ∧ pf.size ≤ maxLen ∧ (Lit.int .i64 ttl).wf = true ∧ (Lit.int .i64 lim).wf = true := by
  obtain ⟨c0, c1, c2, c3, y0, y1, y2, y3, m, rfl, rfl, rfl, t0, t1, t2, t3⟩ := open_agg4 Tryd.underlying45 (by kernel_rfl) (by kernel_rfl) hv h
  obtain ⟨k, e0, _, w0⟩ := DataW.trod_string Tryd.underlying9 t0
  obtain ⟨c, e1, _, w1⟩ := DataW.trod_string Tryd.underlying9 t1
  obtain ⟨f, e2, _, w2⟩ := DataW.trod_int Tryd.underlying3 t2
  obtain ⟨u, e3, _, w3⟩ := DataW.trod_int Tryd.underlying3 t3
  simp only [List.cons.injEq, and_true] at e0 e1 e2 e3
  subst e0 e1 e2 e3
  exact ⟨k, c, f, u, rfl, w0, w1, w2, w3⟩
end
end Go.Proofs.YtaaloiloklnbiaaDoor
