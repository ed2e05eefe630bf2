/- Arguments of the kinds role and device: opened. No condition. -/
import Derived.Test.YteimapjiidekoaaDoorRows
import Derived.Test.YteimapjiidekoaaDoorOpen
import Derived.Test.YteimapjiidekoaaDoorEnInt
namespace Go.Proofs.YteimapjiidekoaaDoor
open Go.RowKit Go.ChangeShapes Go.WideShapes Go.Deep Go.Joins
section
variable {H : Type} {enc : TypeId × Value → H} {w : World} {base : Nat} {spare : Nat → Bool} {held : Bool}
set_option maxRecDepth 100000 in
theorem open_str' {r : Reach} {b0 : Nat} {v : Value} {d : DataW H} {p : List MemPlace} (hv : Value.okWide Tryd.prog w r b0 9 v) (h : DataW.Trod enc Tryd.prog w base spare held 9 v d p) : ∃ s : ByteArray, v = .string s ∧ s.size ≤ maxLen := open_str0 Tryd.underlying9 hv h
set_option maxRecDepth 100000 in
theorem open_int' {r : Reach} {b0 : Nat} {v : Value} {d : DataW H} {p : List MemPlace} (hv : Value.okWide Tryd.prog w r b0 3 v) (h : DataW.Trod enc Tryd.prog w base spare held 3 v d p) : ∃ n, v = .int .i64 n ∧ (Lit.int .i64 n).wf = true := open_int0 Tryd.underlying3 hv h
end
end Go.Proofs.YteimapjiidekoaaDoor
namespace Go.Proofs.YteimapjiidekoaaDoor
open Go.RowKit Go.ChangeShapes Go.WideShapes Go.Deep Go.Joins
section
variable {H : Type} {enc : TypeId × Value → H} {w : World} {base : Nat} {spare : Nat → Bool} {held : Bool}
theorem open_intC {n : Nat} {cs : List Value} {y : DataW H × List MemPlace} (hl : cs.length = 1) (h : DataW.trod enc Tryd.prog w base spare held n 3 cs = some y) : ∃ u : Int, True ∧ cs = encInt u := by
  obtain ⟨s, e0, _, hs⟩ := DataW.trod_int Tryd.underlying3 h
  exact ⟨s, trivial, e0⟩
set_option maxRecDepth 100000 in
theorem open_intsl {r : Reach} {b0 : Nat} {v : Value} {d : DataW H} {p : List MemPlace} (hv : Value.okWide Tryd.prog w r b0 25 v) (h : DataW.Trod enc Tryd.prog w base spare held 25 v d p) :
    ∃ A n c, ∃ us : List Int, v = .slice A n c ∧ Rd w w.heap.size 1 A n c (us.flatMap encInt) ∧ us.length = n := by
  obtain ⟨a1, len, cap, rfl⟩ := okWide_slice Tryd.underlying25 hv
  obtain ⟨fuel, hf⟩ := h
  obtain ⟨A, n, c, us, e, hr, hn, _⟩ := open_sl encInt 1 encInt_len (by omega) (fun _ => True) Tryd.underlying25 (by kernel_rfl) (fun _ _ _ hl ht => open_intC hl ht) hf
  simp [Value.cells] at e
  obtain ⟨rfl, rfl, rfl⟩ := e
  exact ⟨_, _, _, us, rfl, hr, hn⟩
end
end Go.Proofs.YteimapjiidekoaaDoor
