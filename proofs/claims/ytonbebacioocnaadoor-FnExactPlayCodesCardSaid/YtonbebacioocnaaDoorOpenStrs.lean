/- Arguments that are slices of strings: opened. No condition. -/
import Derived.Test.YtonbebacioocnaaDoorRows
import Derived.Test.YtonbebacioocnaaDoorOpen
import Derived.Test.YtonbebacioocnaaDoorEnStr
namespace Go.Proofs.YtonbebacioocnaaDoor
open Go.RowKit Go.ChangeShapes Go.WideShapes Go.Deep Go.Joins
section
variable {H : Type} {enc : TypeId × Value → H} {w : World} {base : Nat} {spare : Nat → Bool} {held : Bool}
set_option maxRecDepth 100000 in
theorem open_strsl {r : Reach} {b0 : Nat} {v : Value} {d : DataW H} {p : List MemPlace} (hv : Value.okWide Tryd.prog w r b0 29 v) (h : DataW.Trod enc Tryd.prog w base spare held 29 v d p) :
    ∃ A n c, ∃ us : List ByteArray, v = .slice A n c ∧ Rd w w.heap.size 1 A n c (us.flatMap encStr) ∧ us.length = n ∧ (∀ u ∈ us, u.size ≤ maxLen) := by
  obtain ⟨a1, len, cap, rfl⟩ := okWide_slice Tryd.underlying29 hv
  obtain ⟨fuel, hf⟩ := h
  obtain ⟨A, n, c, us, e, hr, hn, hq⟩ := open_sl encStr 1 encStr_len (by omega) (fun u => u.size ≤ maxLen) Tryd.underlying29 (by kernel_rfl) (fun _ cs' _ hl ht => by
    obtain ⟨s, e, _, hs⟩ := DataW.trod_string Tryd.underlying9 ht
    exact ⟨s, hs, e⟩) hf
  simp [Value.cells] at e
  obtain ⟨rfl, rfl, rfl⟩ := e
  exact ⟨_, _, _, us, rfl, hr, hn, hq⟩
end
end Go.Proofs.YtonbebacioocnaaDoor
