/- Draws of devices. No condition. -/
import Derived.Test.YtaaloiloklnbiaaDoorDraw
import Derived.Test.YtaaloiloklnbiaaDoorDev
namespace Go.Proofs.YtaaloiloklnbiaaDoor
open Go.RowKit
set_option linter.unusedVariables false
set_option linter.unusedSimpArgs false
def AllI : List Value → Prop
  | [] => True
  | v :: vs => (∃ x : Int, v = .int .i64 x) ∧ AllI vs
theorem AllI.out : ∀ {cs : List Value}, AllI cs → ∀ v ∈ cs, ∃ x : Int, v = .int .i64 x ∧ True
  | [], _, v, h => by cases h
  | c :: cs, ⟨⟨x, hx⟩, ht⟩, v, h => by
    rcases List.mem_cons.1 h with rfl | h
    · exact ⟨x, hx, trivial⟩
    · exact AllI.out ht v h
theorem l01PickInt_t (b : Nat) (A : Option Addr) (n c : Nat) (bs : List UInt8) (w0 w : World) (L : List Ent) (g k : Nat) (cs : List Value) (H : Hp w0 w L) (hm : curE b A n c ∈ L) (hg : box g 3 cs ∈ L) (hk : cs.length = k) (h0 : 0 < k) (h1 : k ≤ 1000) (hP : AllI cs) (hr : Rd w0 w0.heap.size 1 A n c (bs.flatMap encByte)) (hn : bs.length = n) :
    Calls Tryd.prog 56 #[.pointer (some ⟨b, 0, none⟩), .slice (some ⟨g, 0, none⟩) k k] w fun e w' => ∃ x : Int, e = .returned (.int .i64 x) ∧ Hp w0 w' L :=
  (l01PickInt_hp b A n c bs w0 w L g k cs (fun _ => True) H hm hg hk h0 h1 hP.out hr hn).mono fun e w' ⟨x, he, _, H'⟩ => ⟨x, he, H'⟩
end Go.Proofs.YtaaloiloklnbiaaDoor
