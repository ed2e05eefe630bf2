/- Arguments that are slices of bytes: opened. No condition. -/
import Derived.Test.YtlmmeeeoljlgcaaDoorRows
import Derived.Test.YtlmmeeeoljlgcaaDoorOpen
import Derived.Test.YtlmmeeeoljlgcaaDoorM2
set_option linter.unusedVariables false
set_option linter.unusedSimpArgs false
namespace Go.Proofs.YtlmmeeeoljlgcaaDoor
open Go.RowKit Go.ChangeShapes Go.WideShapes Go.Deep Go.Joins
theorem wf_byte {n : Int} (h : (Lit.int .u8 n).wf = true) : ∃ b : UInt8, n = b.toNat := by
  have h2 : 0 ≤ n ∧ n < 256 := by
    have := bounds_u8 h
    omega
  refine ⟨UInt8.ofNat n.toNat, ?_⟩
  rw [UInt8.toNat_ofNat']
  omega
section
variable {H : Type} {enc : TypeId × Value → H} {w : World} {base : Nat} {spare : Nat → Bool} {held : Bool}
set_option maxRecDepth 100000 in
theorem open_bytes' {r : Reach} {b0 : Nat} {v : Value} {d : DataW H} {p : List MemPlace} (hv : Value.okWide Tryd.prog w r b0 37 v) (h : DataW.Trod enc Tryd.prog w base spare held 37 v d p) :
    ∃ A n c, ∃ us : List UInt8, v = .slice A n c ∧ Rd w w.heap.size 1 A n c (us.flatMap encByte) ∧ us.length = n := by
  obtain ⟨a1, len, cap, rfl⟩ := okWide_slice Tryd.underlying37 hv
  obtain ⟨fuel, hf⟩ := h
  obtain ⟨A, n, c, us, e, hr, hn, hq⟩ := open_sl encByte 1 encByte_len (by omega) (fun _ => True) Tryd.underlying37 (by kernel_rfl) (fun _ cs' _ hl ht => by
    obtain ⟨s, e, _, hs⟩ := DataW.trod_int Tryd.underlying5 ht
    obtain ⟨b, rfl⟩ := wf_byte hs
    exact ⟨b, trivial, e⟩) hf
  simp [Value.cells] at e
  obtain ⟨rfl, rfl, rfl⟩ := e
  exact ⟨_, _, _, us, rfl, hr, hn⟩
end
end Go.Proofs.YtlmmeeeoljlgcaaDoor
