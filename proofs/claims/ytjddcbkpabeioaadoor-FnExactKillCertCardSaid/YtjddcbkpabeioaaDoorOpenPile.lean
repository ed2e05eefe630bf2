/- Arguments of the kind pile: opened. No condition. -/
import Derived.Test.YtjddcbkpabeioaaDoorRows
import Derived.Test.YtjddcbkpabeioaaDoorOpen
import Derived.Test.YtjddcbkpabeioaaDoorAgg8
import Derived.Test.YtjddcbkpabeioaaDoorElCert
import Derived.Test.YtjddcbkpabeioaaDoorElCertKey
import Derived.Test.YtjddcbkpabeioaaDoorOpenInts
namespace Go.Proofs.YtjddcbkpabeioaaDoor
open Go.RowKit Go.ChangeShapes Go.WideShapes Go.Deep Go.Joins

section
variable {H : Type} {enc : TypeId × Value → H} {w : World} {base : Nat} {spare : Nat → Bool} {held : Bool}
theorem open_certC {n : Nat} {cs : List Value} {y : DataW H × List MemPlace} (hl : cs.length = 8) (h : DataW.trod enc Tryd.prog w base spare held n 147 cs = some y) : ∃ u : Cert, CertFits u ∧ cs = encCert u := by
  have cells_string : Tryd.prog.cellsOf 9 = 1 := by kernel_rfl
  have cells_int : Tryd.prog.cellsOf 3 = 1 := by kernel_rfl
  have cells_bool : Tryd.prog.cellsOf 4 = 1 := by kernel_rfl
  match cs, hl with
  | [c0, c1, c2, c3, c4, c5, c6, c7], _ =>
    obtain ⟨y0, y1, y2, y3, y4, y5, y6, y7, m, h0, h1, h2, h3, h4, h5, h6, h7⟩ := trod_struct8 Tryd.underlying147 h
    obtain ⟨a0, e0, _, _⟩ := DataW.trod_int Tryd.underlying3 h0
    obtain ⟨a1, e1, _, w1⟩ := DataW.trod_string Tryd.underlying9 h1
    obtain ⟨a2, e2, _, _⟩ := DataW.trod_int Tryd.underlying3 h2
    obtain ⟨a3, e3, _, _⟩ := DataW.trod_int Tryd.underlying3 h3
    obtain ⟨a4, e4, _, _⟩ := DataW.trod_int Tryd.underlying3 h4
    obtain ⟨a5, e5, _⟩ := DataW.trod_bool Tryd.underlying4 h5
    obtain ⟨a6, e6, _, _⟩ := DataW.trod_int Tryd.underlying3 h6
    obtain ⟨a7, e7, _, _⟩ := DataW.trod_int Tryd.underlying3 h7
    simp [cells_string, cells_int, cells_bool] at e0 e1 e2 e3 e4 e5 e6 e7
    subst e0 e1 e2 e3 e4 e5 e6 e7
    exact ⟨⟨a0, a1, a2, a3, a4, a5, a6, a7⟩, w1, rfl⟩
theorem open_certKeyC {n : Nat} {cs : List Value} {y : DataW H × List MemPlace} (hl : cs.length = 2) (h : DataW.trod enc Tryd.prog w base spare held n 150 cs = some y) : ∃ u : CertKey, True ∧ cs = encCertKey u := by
  have cells_int : Tryd.prog.cellsOf 3 = 1 := by kernel_rfl
  match cs, hl with
  | [c0, c1], _ =>
    obtain ⟨y0, y1, m, _, _, h0, h1⟩ := trod_struct2 Tryd.underlying150 h
    obtain ⟨s, e0, _, hs⟩ := DataW.trod_int Tryd.underlying3 h0
    obtain ⟨t, e1, _, ht⟩ := DataW.trod_int Tryd.underlying3 h1
    simp [cells_int] at e0 e1
    subst e0 e1
    exact ⟨⟨s, t⟩, trivial, rfl⟩
set_option maxRecDepth 100000 in
theorem open_pile {r : Reach} {b0 : Nat} {v : Value} {d : DataW H} {p : List MemPlace} (hv : Value.okWide Tryd.prog w r b0 37 v) (h : DataW.Trod enc Tryd.prog w base spare held 37 v d p) :
    ∃ A0 n0 c0, ∃ us0 : List Cert, ∃ A1 n1 c1, ∃ us1 : List CertKey, ∃ A2 n2 c2, ∃ us2 : List Int, v = .agg #[.slice A0 n0 c0, .slice A1 n1 c1, .slice A2 n2 c2] ∧ Rd w w.heap.size 8 A0 n0 c0 (us0.flatMap encCert) ∧ us0.length = n0 ∧ (∀ u ∈ us0, CertFits u) ∧ Rd w w.heap.size 2 A1 n1 c1 (us1.flatMap encCertKey) ∧ us1.length = n1 ∧ Rd w w.heap.size 1 A2 n2 c2 (us2.flatMap encInt) ∧ us2.length = n2 := by
  obtain ⟨v0, v1, v2, y0, y1, y2, m, rfl, rfl, rfl, t0, t1, t2⟩ := open_agg3 Tryd.underlying37 (by kernel_rfl) (by kernel_rfl) hv h
  obtain ⟨A, n, c, us, e, hr, hn, hq⟩ := open_sl encCert 8 encCert_len (by omega) CertFits Tryd.underlying33 (by kernel_rfl) (fun _ _ _ hl ht => open_certC hl ht) t0
  obtain ⟨A1, n1, c1, us1, e1, hr1, hn1, hq1⟩ := open_sl encCertKey 2 encCertKey_len (by omega) (fun _ => True) Tryd.underlying34 (by kernel_rfl) (fun _ _ _ hl ht => open_certKeyC hl ht) t1
  obtain ⟨A2, n2, c2, us2, e2, hr2, hn2, hq2⟩ := open_sl encInt 1 encInt_len (by omega) (fun _ => True) Tryd.underlying35 (by kernel_rfl) (fun _ _ _ hl ht => open_intC hl ht) t2
  simp only [List.cons.injEq, and_true] at e e1 e2
  subst e e1 e2
  exact ⟨A, n, c, us, A1, n1, c1, us1, A2, n2, c2, us2, rfl, hr, hn, hq, hr1, hn1, hr2, hn2⟩
end
end Go.Proofs.YtjddcbkpabeioaaDoor
