/- FnExactCrlText: the walk. No condition. -/
import Derived.Test.YtjddcbkpabeioaaDoorLhCrlText
import Derived.Test.YtjddcbkpabeioaaDoorCrl
namespace Go.Proofs.YtjddcbkpabeioaaDoor
open Go.RowKit
theorem lawCrlText (A : Option Addr) (n c : Nat) (us : List Cert) (B : Option Addr) (bn bc : Nat) (bus : List CertKey) (E : Option Addr) (en ec : Nat) (eus : List Int) (w : World) (hr : Rd w w.heap.size 8 A n c (us.flatMap encCert)) (hn : us.length = n) (hf : ∀ u ∈ us, CertFits u) (hrb : Rd w w.heap.size 2 B bn bc (bus.flatMap encCertKey)) (hnb : bus.length = bn) (hre : Rd w w.heap.size 1 E en ec (eus.flatMap encInt)) (hne : eus.length = en) (hml : mlOk w) (htab : tabOk w) :
    Calls Tryd.prog 8 #[pileV A n c B bn bc E en ec] w fun e w' => e = .returned (.bool true) ∧ Below w.heap.size w w' := by
  subst hn hnb hne
  refine fnExactCrlText_law A c us B bc bus E ec eus (crlS us bus eus) w hr hf hrb hre ⟨hml, htab⟩ ?_ ?_
  · exact fun W a0 d0 a1 d1 a2 d2 h0 b0 h1 b1 h2 b2 hm => specCrl_any a0 us.length d0 us a1 bus.length d1 bus a2 eus.length d2 eus W h0 rfl hf h1 rfl h2 rfl
  · exact fun W a0 d0 a1 d1 a2 d2 h0 b0 h1 b1 h2 b2 hm => implCrl_any a0 us.length d0 us a1 bus.length d1 bus a2 eus.length d2 eus W h0 rfl hf h1 rfl h2 rfl hm.1 hm.2
end Go.Proofs.YtjddcbkpabeioaaDoor
