/- Arguments of the kinds user and external system: opened. No condition. -/
import Derived.Test.YtaaloiloklnbiaaDoorRows
import Derived.Test.YtaaloiloklnbiaaDoorOpen
import Derived.Test.YtaaloiloklnbiaaDoorElUser
namespace Go.Proofs.YtaaloiloklnbiaaDoor
open Go.RowKit Go.ChangeShapes Go.WideShapes Go.Deep Go.Joins

section
variable {H : Type} {enc : TypeId × Value → H} {w : World} {base : Nat} {spare : Nat → Bool} {held : Bool}
theorem open_user {n : Nat} {cs : List Value} {y : DataW H × List MemPlace} (hl : cs.length = 2) (h : DataW.trod enc Tryd.prog w base spare held n 89 cs = some y) : ∃ u : User, UserFits u ∧ cs = encUser u := by
  have cells_string : Tryd.prog.cellsOf 9 = 1 := by kernel_rfl
  match cs, hl with
  | [c0, c1], _ =>
    obtain ⟨y0, y1, m, _, _, h0, h1⟩ := trod_struct2 Tryd.underlying89 h
    obtain ⟨s, e0, _, hs⟩ := DataW.trod_string Tryd.underlying9 h0
    obtain ⟨t, e1, _, ht⟩ := DataW.trod_string Tryd.underlying9 h1
    simp [cells_string] at e0 e1
    subst e0 e1
    exact ⟨⟨s, t⟩, ⟨hs, ht⟩, rfl⟩
set_option maxRecDepth 100000 in
theorem open_far {r : Reach} {b0 : Nat} {v : Value} {d : DataW H} {p : List MemPlace} (hv : Value.okWide Tryd.prog w r b0 44 v) (h : DataW.Trod enc Tryd.prog w base spare held 44 v d p) :
    ∃ A n c, ∃ us : List User, ∃ fail made, v = .agg #[.slice A n c, .int .i64 fail, .int .i64 made] ∧ Rd w w.heap.size 2 A n c (us.flatMap encUser) ∧ us.length = n ∧ (∀ u ∈ us, UserFits u) ∧ (Lit.int .i64 fail).wf = true ∧ (Lit.int .i64 made).wf = true := by
  obtain ⟨c0, c1, c2, y0, y1, y2, m, rfl, rfl, rfl, t0, t1, t2⟩ := open_agg3 Tryd.underlying44 (by kernel_rfl) (by kernel_rfl) hv h
  obtain ⟨fail, e1, _, w1⟩ := DataW.trod_int Tryd.underlying3 t1
  obtain ⟨made, e2, _, w2⟩ := DataW.trod_int Tryd.underlying3 t2
  simp only [List.cons.injEq, and_true] at e1 e2
  subst e1 e2
  obtain ⟨A, n, c, us, e, hr, hn, hq⟩ := open_sl encUser 2 encUser_len (by omega) UserFits Tryd.underlying42 (by kernel_rfl) (fun _ _ _ hl ht => open_user hl ht) t0
  simp only [List.cons.injEq, and_true] at e
  subst e
  exact ⟨A, n, c, us, fail, made, rfl, hr, hn, hq, w1, w2⟩
end
end Go.Proofs.YtaaloiloklnbiaaDoor
