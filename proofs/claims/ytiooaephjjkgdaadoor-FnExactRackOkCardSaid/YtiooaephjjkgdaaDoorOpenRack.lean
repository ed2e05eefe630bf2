/- Arguments of the kind rack: opened. No condition. -/
import Derived.Test.YtiooaephjjkgdaaDoorRows
import Derived.Test.YtiooaephjjkgdaaDoorOpen
import Derived.Test.YtiooaephjjkgdaaDoorOpenBytes
import Derived.Test.YtiooaephjjkgdaaDoorRackA
namespace Go.Proofs.YtiooaephjjkgdaaDoor
open Go.RowKit Go.ChangeShapes Go.WideShapes Go.Deep Go.Joins
section
variable {H : Type} {enc : TypeId × Value → H} {P : Program} {w : World} {base : Nat} {spare : Nat → Bool} {held : Bool}
theorem trod_struct4w {t : TypeId} {f0 f1 f2 f3 : Field} {fuel : Nat} {cs : List Value} {x : DataW H × List MemPlace} (ht : P.underlying t = some (.struct #[f0, f1, f2, f3])) (h : DataW.trod enc P w base spare held fuel t cs = some x) :
    ∃ y0 y1 y2 y3 n, DataW.trod enc P w base spare held n f0.type ((cs.drop f0.offset).take (P.cellsOf f0.type)) = some y0 ∧ DataW.trod enc P w base spare held n f1.type ((cs.drop f1.offset).take (P.cellsOf f1.type)) = some y1 ∧ DataW.trod enc P w base spare held n f2.type ((cs.drop f2.offset).take (P.cellsOf f2.type)) = some y2 ∧ DataW.trod enc P w base spare held n f3.type ((cs.drop f3.offset).take (P.cellsOf f3.type)) = some y3 := by
  obtain ⟨xs, n, _, rfl, hl, hlen, hf⟩ := DataW.trod_struct ht h
  match xs, hlen with
  | [y0, y1, y2, y3], _ => exact ⟨y0, y1, y2, y3, n, by simpa using hf 0 f0 rfl, by simpa using hf 1 f1 rfl, by simpa using hf 2 f2 rfl, by simpa using hf 3 f3 rfl⟩
theorem open_wrapC {n : Nat} {cs : List Value} {y : DataW H × List MemPlace} (hl : cs.length = 6) (h : DataW.trod enc Tryd.prog w base spare held n 95 cs = some y) : ∃ u : Wrap, (u.kind.size ≤ maxLen ∧ DW 0 w u) ∧ cs = encWrap u := by
  have cells_string : Tryd.prog.cellsOf 9 = 1 := by kernel_rfl
  have cells_int : Tryd.prog.cellsOf 3 = 1 := by kernel_rfl
  have cells_box : Tryd.prog.cellsOf 93 = 3 := by kernel_rfl
  have cells_bytes : Tryd.prog.cellsOf 44 = 1 := by kernel_rfl
  match cs, hl with
  | [c0, c1, c2, c3, c4, c5], _ =>
    obtain ⟨y0, y1, y2, y3, m, h0, h1, h2, h3⟩ := trod_struct4w Tryd.underlying95 h
    obtain ⟨a0, e0, _, _⟩ := DataW.trod_int Tryd.underlying3 h0
    obtain ⟨a1, e1, _, _⟩ := DataW.trod_int Tryd.underlying3 h1
    obtain ⟨a2, e2, _, w2⟩ := DataW.trod_string Tryd.underlying9 h2
    obtain ⟨z0, z1, z2, m2, _, _, g0, g1, g2⟩ := Go.Deep.trod_struct3 Tryd.underlying93 h3
    obtain ⟨a3, e3, _, _⟩ := DataW.trod_int Tryd.underlying3 g0
    obtain ⟨a5, e5, _, _⟩ := DataW.trod_int Tryd.underlying3 g2
    obtain ⟨A, n, c, us, e4, hr, hn, hq⟩ := open_sl encByte 1 encByte_len (by omega) (fun _ => True) Tryd.underlying44 (by kernel_rfl) (fun _ cs' _ hl ht => by
      obtain ⟨s, e, _, hs⟩ := DataW.trod_int Tryd.underlying5 ht
      obtain ⟨b, rfl⟩ := wf_byte hs
      exact ⟨b, trivial, e⟩) g1
    simp [cells_string, cells_int, cells_box, cells_bytes] at e0 e1 e2 e3 e4 e5
    subst hn
    subst e0 e1 e2 e3 e4 e5
    exact ⟨⟨a0, a1, a2, a3, us, A, c, a5⟩, ⟨w2, hr, fun _ _ => Nat.zero_le _⟩, rfl⟩
set_option maxRecDepth 100000 in
theorem open_rack {r : Reach} {b0 : Nat} {v : Value} {d : DataW H} {p : List MemPlace} (hv : Value.okWide Tryd.prog w r b0 24 v) (h : DataW.Trod enc Tryd.prog w base spare held 24 v d p) :
    ∃ key next A n c, ∃ us : List Wrap, v = .agg #[.int .i64 key, .int .i64 next, .slice A n c] ∧ Rd w w.heap.size 6 A n c (us.flatMap encWrap) ∧ us.length = n ∧ ∀ u ∈ us, u.kind.size ≤ maxLen ∧ DW 0 w u := by
  obtain ⟨v0, v1, v2, y0, y1, y2, m, rfl, rfl, rfl, t0, t1, t2⟩ := open_agg3 Tryd.underlying24 (by kernel_rfl) (by kernel_rfl) hv h
  obtain ⟨key, e0, _, _⟩ := DataW.trod_int Tryd.underlying3 t0
  obtain ⟨next, e1, _, _⟩ := DataW.trod_int Tryd.underlying3 t1
  obtain ⟨A, n, c, us, e, hr, hn, hq⟩ := open_sl encWrap 6 encWrap_len (by omega) (fun u => u.kind.size ≤ maxLen ∧ DW 0 w u) Tryd.underlying22 (by kernel_rfl) (fun _ _ _ hl ht => open_wrapC hl ht) t2
  simp only [List.cons.injEq, and_true] at e e0 e1
  subst e e0 e1
  exact ⟨key, next, A, n, c, us, rfl, hr, hn, hq⟩
end
end Go.Proofs.YtiooaephjjkgdaaDoor
