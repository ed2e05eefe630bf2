/- Arguments of the kind store: opened. No condition. -/
import Derived.Test.YteimapjiidekoaaDoorRows
import Derived.Test.YteimapjiidekoaaDoorOpen
import Derived.Test.YteimapjiidekoaaDoorOpenBytes
import Derived.Test.YteimapjiidekoaaDoorElEntry
namespace Go.Proofs.YteimapjiidekoaaDoor
open Go.RowKit Go.ChangeShapes Go.WideShapes Go.Deep Go.Joins
section
variable {H : Type} {enc : TypeId × Value → H} {P : Program} {w : World} {base : Nat} {spare : Nat → Bool} {held : Bool}
theorem trod_struct4v {t : TypeId} {f0 f1 f2 f3 : Field} {fuel : Nat} {cs : List Value} {x : DataW H × List MemPlace} (ht : P.underlying t = some (.struct #[f0, f1, f2, f3])) (h : DataW.trod enc P w base spare held fuel t cs = some x) :
    ∃ y0 y1 y2 y3 n, DataW.trod enc P w base spare held n f0.type ((cs.drop f0.offset).take (P.cellsOf f0.type)) = some y0 ∧ DataW.trod enc P w base spare held n f1.type ((cs.drop f1.offset).take (P.cellsOf f1.type)) = some y1 ∧ DataW.trod enc P w base spare held n f2.type ((cs.drop f2.offset).take (P.cellsOf f2.type)) = some y2 ∧ DataW.trod enc P w base spare held n f3.type ((cs.drop f3.offset).take (P.cellsOf f3.type)) = some y3 := by
  obtain ⟨xs, n, _, rfl, hl, hlen, hf⟩ := DataW.trod_struct ht h
  match xs, hlen with
  | [y0, y1, y2, y3], _ => exact ⟨y0, y1, y2, y3, n, by simpa using hf 0 f0 rfl, by simpa using hf 1 f1 rfl, by simpa using hf 2 f2 rfl, by simpa using hf 3 f3 rfl⟩
theorem open_verC {n : Nat} {cs : List Value} {y : DataW H × List MemPlace} (hl : cs.length = 4) (h : DataW.trod enc Tryd.prog w base spare held n 133 cs = some y) : ∃ u : Ver, DV 0 w u ∧ cs = encVer u := by
  have cells_int : Tryd.prog.cellsOf 3 = 1 := by kernel_rfl
  have cells_bool : Tryd.prog.cellsOf 4 = 1 := by kernel_rfl
  have cells_bytes : Tryd.prog.cellsOf 39 = 1 := by kernel_rfl
  match cs, hl with
  | [c0, c1, c2, c3], _ =>
    obtain ⟨y0, y1, y2, y3, m, h0, h1, h2, h3⟩ := trod_struct4v Tryd.underlying133 h
    obtain ⟨a1, e1, _, _⟩ := DataW.trod_int Tryd.underlying3 h1
    obtain ⟨a2, e2, _⟩ := DataW.trod_bool Tryd.underlying4 h2
    obtain ⟨a3, e3, _⟩ := DataW.trod_bool Tryd.underlying4 h3
    obtain ⟨A, n, c, us, e0, hr, hn, hq⟩ := open_sl encByte 1 encByte_len (by omega) (fun _ => True) Tryd.underlying39 (by kernel_rfl) (fun _ cs' _ hl ht => by
      obtain ⟨s, e, _, hs⟩ := DataW.trod_int Tryd.underlying5 ht
      obtain ⟨b, rfl⟩ := wf_byte hs
      exact ⟨b, trivial, e⟩) h0
    simp [cells_int, cells_bool, cells_bytes] at e0 e1 e2 e3
    subst hn
    subst e0 e1 e2 e3
    exact ⟨⟨us, A, c, a1, a2, a3⟩, ⟨hr, fun _ _ => Nat.zero_le _⟩, rfl⟩
theorem open_entryC {n : Nat} {cs : List Value} {y : DataW H × List MemPlace} (hl : cs.length = 3) (h : DataW.trod enc Tryd.prog w base spare held n 97 cs = some y) : ∃ u : Entry, (u.path.size ≤ maxLen ∧ DE 0 w u) ∧ cs = encEntry u := by
  have cells_string : Tryd.prog.cellsOf 9 = 1 := by kernel_rfl
  have cells_int : Tryd.prog.cellsOf 3 = 1 := by kernel_rfl
  have cells_vers : Tryd.prog.cellsOf 95 = 1 := by kernel_rfl
  match cs, hl with
  | [c0, c1, c2], _ =>
    obtain ⟨y0, y1, y2, m, _, _, h0, h1, h2⟩ := Go.Deep.trod_struct3 Tryd.underlying97 h
    obtain ⟨a0, e0, _, w0⟩ := DataW.trod_string Tryd.underlying9 h0
    obtain ⟨a1, e1, _, _⟩ := DataW.trod_int Tryd.underlying3 h1
    obtain ⟨A, n, c, us, e2, hr, hn, hq⟩ := open_sl encVer 4 encVer_len (by omega) (fun u => DV 0 w u) Tryd.underlying95 (by kernel_rfl) (fun _ _ _ hl ht => open_verC hl ht) h2
    simp [cells_string, cells_int, cells_vers] at e0 e1 e2
    subst hn
    subst e0 e1 e2
    exact ⟨⟨a0, a1, us, A, c⟩, ⟨w0, ⟨hr, fun _ _ => Nat.zero_le _⟩, hq⟩, rfl⟩
set_option maxRecDepth 100000 in
theorem open_store {r : Reach} {b0 : Nat} {v : Value} {d : DataW H} {p : List MemPlace} (hv : Value.okWide Tryd.prog w r b0 24 v) (h : DataW.Trod enc Tryd.prog w base spare held 24 v d p) :
    ∃ A n c, ∃ us : List Entry, v = .agg #[.slice A n c] ∧ Rd w w.heap.size 3 A n c (us.flatMap encEntry) ∧ us.length = n ∧ ∀ u ∈ us, u.path.size ≤ maxLen ∧ DE 0 w u := by
  have hC : Tryd.prog.cellsOf 24 = 1 := by kernel_rfl
  have hC2 : Tryd.prog.cellsOf 22 = 1 := by kernel_rfl
  obtain ⟨cs, rfl, hsz⟩ := okWide_struct Tryd.underlying24 hv
  obtain ⟨l⟩ := cs
  have hl : l.length = 1 := hsz.trans hC
  obtain ⟨fuel, hf⟩ := h
  match l, hl with
  | [c0], _ =>
    obtain ⟨y0, m, _, _, t0⟩ := trod_struct1 Tryd.underlying24 hf
    simp [Value.cells, hC2] at t0
    obtain ⟨A, n, c, us, e, hr, hn, hq⟩ := open_sl encEntry 3 encEntry_len (by omega) (fun u => u.path.size ≤ maxLen ∧ DE 0 w u) Tryd.underlying22 (by kernel_rfl) (fun _ _ _ hl ht => open_entryC hl ht) t0
    simp only [List.cons.injEq, and_true] at e
    subst e
    exact ⟨A, n, c, us, rfl, hr, hn, hq⟩
end
end Go.Proofs.YteimapjiidekoaaDoor
